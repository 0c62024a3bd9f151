/- The walk of IpEchoes. -/
import Derived.Test.YtbjiicnagfeciaaIpEr
import Derived.BigQuiet
import Derived.Deep.QuietTactic
namespace Go.Proofs.Ytbjiicnagfeciaa
open Go Go.RowKit
set_option maxRecDepth 100000

theorem bs_len {w : World} {A : Option Addr} {n cap : Nat} {bs : List UInt8} (h : Bs w (.slice A n cap) bs) (hn : bs.length = n) : Bs w (.slice A bs.length cap) bs := by
  subst hn; exact h
/-- a right echo: what is answered -/
theorem echo_right (b : List UInt8) (h8 : 8 ≤ b.length) : ∃ R : List UInt8, R = sumAt ((b.set 0 8).set 1 0) 2 ∧ R.length = b.length ∧ ∃ a : List UInt8, ipEcho R = (a, 0) ∧ a.length = R.length ∧ a.getD 0 1 = 0 ∧ a.drop 4 = R.drop 4 ∧ inet a = 0 := by
  refine ⟨_, rfl, by simp [sumAt_len], sumAt ((sumAt ((b.set 0 8).set 1 0) 2).set 0 0) 2, ?_, by simp [sumAt_len], ?_, ?_, inet_sumAt _ 2 (by simp [sumAt_len]; omega) rfl⟩
  · have h0 : (sumAt ((b.set 0 8).set 1 0) 2).getD 0 0 = 8 := by
      match b, h8 with
      | x0 :: x1 :: x2 :: x3 :: r, _ => rfl
    have h1 : (sumAt ((b.set 0 8).set 1 0) 2).getD 1 0 = 0 := by
      match b, h8 with
      | x0 :: x1 :: x2 :: x3 :: r, _ => rfl
    unfold ipEcho
    rw [if_neg (by simp [sumAt_len]; omega), if_neg (by rw [inet_sumAt _ 2 (by simp; omega) rfl]; simp), h0, h1, if_neg (by simp)]
  · match b, h8 with
    | x0 :: x1 :: x2 :: x3 :: r, _ => rfl
  · match b, h8 with
    | x0 :: x1 :: x2 :: x3 :: r, _ => rfl

set_option maxHeartbeats 2000000 in
theorem ipEchoes_walk (v : Value) (b : List UInt8) (right : Bool) (w : World) (h : Bs w v b) :
    Calls Try.prog 4 #[v, .bool right] w fun e w' => e = .returned (.bool true) ∧ Below w.heap.size w w' := by
  have HB := hid h
  obtain ⟨A, cap, rfl, k1, k2, _⟩ := h.cells
  clear h
  have K0 := hid ((Kept.new w).add HB.out)
  by_cases hbig : b.length > 5000
  · have g1 : (b.length : Int) > 5000 := by omega
    go_enter Try.func4, Try.ntmps4
    go_wp2_with ((go_at_call 10; refine (known_any _).mono ?_; rintro e w' ⟨rfl, hb1⟩); have Hb1 := hid hb1; have K1 := hid (K0.out.step hb1); clear hb1)
    go_ret
    exact ⟨rfl, Hb1.out⟩
  have g1 : ¬ (b.length : Int) > 5000 := by omega
  have hl : b.length ≤ 1099511627776 := by omega
  by_cases hr : right = true ∧ 8 ≤ b.length
  case neg =>
    have hf : right = false ∨ (b.length : Int) < 8 := by
      cases right
      · exact .inl rfl
      · right; simp at hr; omega
    rcases hE : ipEcho b with ⟨a, code⟩
    have HE := hid hE
    clear hE
    have hfin : ∀ (rb : Bool), right = rb → (rb = false ∨ (b.length : Int) < 8) → Calls Try.prog 4 #[.slice A b.length cap, .bool rb] w fun e w' => e = .returned (.bool true) ∧ Below w.heap.size w w' := by
      rintro rb _ (rfl | hf)
      · go_enter Try.func4, Try.ntmps4
        go_wp2_with (first | ((go_at_call 10; refine (known_any _).mono ?_; rintro e w' ⟨rfl, hb1⟩); have Hb1 := hid hb1; have K1 := hid (K0.out.step hb1); clear hb1) | ((with_reducible show wpList _ _ _ (Oper.mk (some 18) _ _ _ _ _ :: _) _ _); refine wpList_app8 _ rfl _ _ 23 rfl w'.heap.size 5 u8ok (.slice (some ⟨w'.heap.size, 0, none⟩) 0 0) [] rfl (ownBs_litNil rfl (Nat.le_refl _)) _ b rfl ((K1.out.r 0 rfl).alloc _) (by simp; omega) (by simp) ?_; intro v2 w2 hown2 hb2 hg2 hat2; clear hg2 hat2; rw [List.nil_append] at hown2; have Hown2 := hid hown2; have Hb2 := hid ((below_alloc w' _).trans hb2); have K2 := hid (K1.out.step Hb2.out); obtain ⟨_, A2, cap2, rfl, _⟩ := hown2.bs; clear hown2 hb2) | ((go_at_call 17; refine (echo_any _ b _ Hown2.out.bs hl).mono ?_; rintro e w' ⟨v3, rfl, hown, hb⟩); rw [HE.out] at hown ⊢; simp only at hown ⊢; obtain ⟨_, A3, cap3, rfl, _⟩ := hown.bs; have K3 := hid ((K2.out.step hb).add hown.bs); have H23 := hid (Hown2.out.below hb); clear hown hb) | ((go_at_call 18; refine (recho_any _ b _ H23.out.bs hl).mono ?_; rintro e w' ⟨v4, rfl, hown, hb⟩); rw [HE.out] at hown ⊢; simp only at hown ⊢; have K4 := hid ((K3.out.step hb).add hown.bs); have s1 := run_str Try.underlying23 Try.underlying5 Try.underlying9 (K4.out.r 0 rfl); have s2 := run_str Try.underlying23 Try.underlying5 Try.underlying9 (K4.out.r 1 rfl); clear hown hb))
        go_ret
        exact ⟨rfl, K4.out.bel⟩
      · have hf2 : ¬ (b.length : Int) ≥ 8 := by omega
        cases rb
        · go_enter Try.func4, Try.ntmps4
          go_wp2_with (first | ((go_at_call 10; refine (known_any _).mono ?_; rintro e w' ⟨rfl, hb1⟩); have Hb1 := hid hb1; have K1 := hid (K0.out.step hb1); clear hb1) | ((with_reducible show wpList _ _ _ (Oper.mk (some 18) _ _ _ _ _ :: _) _ _); refine wpList_app8 _ rfl _ _ 23 rfl w'.heap.size 5 u8ok (.slice (some ⟨w'.heap.size, 0, none⟩) 0 0) [] rfl (ownBs_litNil rfl (Nat.le_refl _)) _ b rfl ((K1.out.r 0 rfl).alloc _) (by simp; omega) (by simp) ?_; intro v2 w2 hown2 hb2 hg2 hat2; clear hg2 hat2; rw [List.nil_append] at hown2; have Hown2 := hid hown2; have Hb2 := hid ((below_alloc w' _).trans hb2); have K2 := hid (K1.out.step Hb2.out); obtain ⟨_, A2, cap2, rfl, _⟩ := hown2.bs; clear hown2 hb2) | ((go_at_call 17; refine (echo_any _ b _ Hown2.out.bs hl).mono ?_; rintro e w' ⟨v3, rfl, hown, hb⟩); rw [HE.out] at hown ⊢; simp only at hown ⊢; obtain ⟨_, A3, cap3, rfl, _⟩ := hown.bs; have K3 := hid ((K2.out.step hb).add hown.bs); have H23 := hid (Hown2.out.below hb); clear hown hb) | ((go_at_call 18; refine (recho_any _ b _ H23.out.bs hl).mono ?_; rintro e w' ⟨v4, rfl, hown, hb⟩); rw [HE.out] at hown ⊢; simp only at hown ⊢; have K4 := hid ((K3.out.step hb).add hown.bs); have s1 := run_str Try.underlying23 Try.underlying5 Try.underlying9 (K4.out.r 0 rfl); have s2 := run_str Try.underlying23 Try.underlying5 Try.underlying9 (K4.out.r 1 rfl); clear hown hb))
          go_ret
          exact ⟨rfl, K4.out.bel⟩
        · go_enter Try.func4, Try.ntmps4
          go_wp2_with (first | ((go_at_call 10; refine (known_any _).mono ?_; rintro e w' ⟨rfl, hb1⟩); have Hb1 := hid hb1; have K1 := hid (K0.out.step hb1); clear hb1) | ((with_reducible show wpList _ _ _ (Oper.mk (some 18) _ _ _ _ _ :: _) _ _); refine wpList_app8 _ rfl _ _ 23 rfl w'.heap.size 5 u8ok (.slice (some ⟨w'.heap.size, 0, none⟩) 0 0) [] rfl (ownBs_litNil rfl (Nat.le_refl _)) _ b rfl ((K1.out.r 0 rfl).alloc _) (by simp; omega) (by simp) ?_; intro v2 w2 hown2 hb2 hg2 hat2; clear hg2 hat2; rw [List.nil_append] at hown2; have Hown2 := hid hown2; have Hb2 := hid ((below_alloc w' _).trans hb2); have K2 := hid (K1.out.step Hb2.out); obtain ⟨_, A2, cap2, rfl, _⟩ := hown2.bs; clear hown2 hb2) | ((go_at_call 17; refine (echo_any _ b _ Hown2.out.bs hl).mono ?_; rintro e w' ⟨v3, rfl, hown, hb⟩); rw [HE.out] at hown ⊢; simp only at hown ⊢; obtain ⟨_, A3, cap3, rfl, _⟩ := hown.bs; have K3 := hid ((K2.out.step hb).add hown.bs); have H23 := hid (Hown2.out.below hb); clear hown hb) | ((go_at_call 18; refine (recho_any _ b _ H23.out.bs hl).mono ?_; rintro e w' ⟨v4, rfl, hown, hb⟩); rw [HE.out] at hown ⊢; simp only at hown ⊢; have K4 := hid ((K3.out.step hb).add hown.bs); have s1 := run_str Try.underlying23 Try.underlying5 Try.underlying9 (K4.out.r 0 rfl); have s2 := run_str Try.underlying23 Try.underlying5 Try.underlying9 (K4.out.r 1 rfl); clear hown hb))
          go_ret
          exact ⟨rfl, K4.out.bel⟩
    exact hfin right rfl hf
  obtain ⟨rfl, h8⟩ := hr
  have g8 : (b.length : Int) ≥ 8 := by omega
  obtain ⟨R, hR, hRl, a, hE, hal, ha0, ha4, hai⟩ := echo_right b h8
  have HE := hid hE
  have HR := hid hR
  have hal2 : a.length = b.length := hal.trans hRl
  have Hal2 := hid hal2
  have Hai := hid hai
  have Ha4 := hid ha4
  have Ha0 := hid (show ∀ h : 0 < a.length, a[0] = 0 by
    intro h
    rw [← ha0]; simp [List.getD, h])
  clear hE hal hal2 hai ha4 ha0
  go_enter Try.func4, Try.ntmps4
  go_upto_region 7 with (first | ((go_at_call 10; refine (known_any _).mono ?_; rintro e w' ⟨rfl, hb1⟩); have Hb1 := hid hb1; have K1 := hid (K0.out.step hb1); clear hb1) | ((with_reducible show wpList _ _ _ (Oper.mk (some 18) _ _ _ _ _ :: _) _ _); refine wpList_app8 _ rfl _ _ 23 rfl w'.heap.size 5 u8ok (.slice (some ⟨w'.heap.size, 0, none⟩) 0 0) [] rfl (ownBs_litNil rfl (Nat.le_refl _)) _ b rfl ((K1.out.r 0 rfl).alloc _) (by simp; omega) (by simp) ?_; intro v2 w2 hown2 hb2 hg2 hat2; clear hg2 hat2; rw [List.nil_append] at hown2; have Hown2 := hid hown2; have Hb2 := hid ((below_alloc w' _).trans hb2); have K2 := hid (K1.out.step Hb2.out); obtain ⟨_, A2, cap2, rfl, _⟩ := hown2.bs; clear hown2 hb2))
  obtain ⟨g, cap3, hv, z1, z2, z3⟩ := own_open Hown2.out (by omega)
  injection hv with e1 e2 e3
  subst e1; subst e3
  clear e2
  have i0 : (0 : Int) < (b.length : Int) := by omega
  have i1 : (1 : Int) < (b.length : Int) := by omega
  have i2 : (2 : Int) < (b.length : Int) := by omega
  have i3 : (3 : Int) < (b.length : Int) := by omega
  obtain ⟨y0, f0⟩ := own_cell Hown2.out 0 (by omega)
  obtain ⟨y1, f1⟩ := own_cell Hown2.out 1 (by omega)
  obtain ⟨y2, f2⟩ := own_cell Hown2.out 2 (by omega)
  obtain ⟨y3, f3⟩ := own_cell Hown2.out 3 (by omega)
  obtain ⟨o1, p1⟩ := own_set Hown2.out 0 8 (.int .u8 8) rfl
  obtain ⟨o2, p2⟩ := own_set o1 1 0 (.int .u8 0) rfl
  obtain ⟨o3, p3⟩ := own_set o2 2 0 (.int .u8 0) rfl
  obtain ⟨o4, p4⟩ := own_set o3 3 0 (.int .u8 0) rfl
  obtain ⟨C, hC⟩ : ∃ C, ((((b.set 0 8).set 1 0).set 2 0).set 3 0) = C := ⟨_, rfl⟩
  have hCl : C.length = b.length := by rw [← hC]; simp
  rw [hC] at o4
  have HO := hid o4
  have HP := hid (grown_trans p1 (grown_trans p2 (grown_trans p3 p4)))
  obtain ⟨T, hT⟩ : ∃ T, inet C = T := ⟨_, rfl⟩
  have hT16 : T ≤ 65535 := by rw [← hT]; unfold inet; omega
  have HT := hid hT
  have HRC := hid (show R = (C.set 2 (UInt8.ofNat (T / 256))).set 3 (UInt8.ofNat T) by
    rw [HR.out]; unfold sumAt; rw [hC, hT])
  have HCl := hid hCl
  clear o1 o2 o3 o4 p1 p2 p3 p4 hC hT hCl
  obtain ⟨o5, p5⟩ := own_set HO.out 2 (UInt8.ofNat (T / 256)) (.int .u8 ((T : Int) / 256)) (u8_hi T hT16)
  obtain ⟨o6, p6⟩ := own_set o5 3 (UInt8.ofNat T) (.int .u8 ((T : Int) % 256)) (u8_lo T)
  rw [← HRC.out] at o6
  have HOR := hid o6
  have HBL := hid (below_own K2.out.bel (grown_trans HP.out (grown_trans p5 p6)) (Nat.le_trans Hb1.out.size z2) K2.out.bel.size)
  obtain ⟨ii, hii, hz, hss, hby⟩ := info_parts u8info
  clear o5 o6 p5 p6 hz hby
  go_upto_region 15 with (first
    | ((go_at_call 16; refine (linet_any _ C _ HO.out.bs (by have := HCl.out; omega)).mono ?_; rintro e w' ⟨rfl, rfl⟩); rw [HT.out])
    | ((go_at_call 17; refine (echo_any _ R _ HOR.out.bs (by omega)).mono ?_; rintro e w' ⟨v3, rfl, hown, hb⟩); rw [HE.out] at hown ⊢; simp only at hown ⊢; obtain ⟨g3, cap3, rfl, u1, u2, u3⟩ := own_open hown (by have := Hal2.out; omega); rw [Hal2.out] at hown u1 ⊢; have H3 := hid hown; have HR3 := hid (HOR.out.below hb); have HB3 := hid (HBL.out.trans (hb.mono HBL.out.size)); clear hown hb)
    | ((go_at_call 18; refine (recho_any _ R _ HR3.out.bs (by omega)).mono ?_; rintro e w' ⟨v4, rfl, hown, hb⟩); rw [HE.out] at hown ⊢; simp only at hown ⊢; have H4 := hid (H3.out.below hb); have HR4 := hid (HR3.out.below hb); have HB4 := hid (HB3.out.trans (hb.mono HB3.out.size)); have s1 := run_str Try.underlying23 Try.underlying5 Try.underlying9 H4.out.bs; have s2 := run_str Try.underlying23 Try.underlying5 Try.underlying9 hown.bs; clear hown hb))
  have c1 := run_cut_from (P := Try.prog) (T := 23) Try.underlying23 hii (some ⟨g3, 0, none⟩) b.length cap3 .i64 4 4 (b.length - 4) rfl (by omega) u1
  have c2 := run_cut_from (P := Try.prog) (T := 23) Try.underlying23 hii (some ⟨g, 0, none⟩) b.length cap2 .i64 4 4 (b.length - 4) rfl (by omega) z1
  rw [hss] at c1 c2
  obtain ⟨rest, hrest⟩ : ∃ r, R.drop 4 = r := ⟨_, rfl⟩
  have q1 : Bs w' (.slice (cutA (some ⟨g3, 0, none⟩) cap3 4 1) (b.length - 4) (cap3 - 4)) rest := by
    have := Bs.cut (l := 4) (k := b.length - 4) (bs_len H4.out.bs Hal2.out) (by have := Hal2.out; omega)
    rwa [List.take_of_length_le (by simp; have := Hal2.out; omega), Ha4.out, hrest] at this
  have q2 : Bs w' (.slice (cutA (some ⟨g, 0, none⟩) cap2 4 1) (b.length - 4) (cap2 - 4)) rest := by
    have := Bs.cut (l := 4) (k := b.length - 4) (bs_len HR4.out.bs hRl) (by omega)
    rwa [List.take_of_length_le (by simp; omega), hrest] at this
  have t1 : ∀ n, (convert 23 9 _).run Try.prog (w'.drewN n) = _ := fun n => run_str Try.underlying23 Try.underlying5 Try.underlying9 (q1.drewN n)
  have t2 : ∀ n, (convert 23 9 _).run Try.prog (w'.drewN n) = _ := fun n => run_str Try.underlying23 Try.underlying5 Try.underlying9 (q2.drewN n)
  have ya : w'.cell? ⟨g3, 0, none⟩ = some (.int .u8 0) := by
    have := (own_cell H4.out 0 (by have := Hal2.out; omega)).1
    rw [Ha0.out] at this
    exact this
  have HI := fun n => linet_any (.slice (some ⟨g3, 0, none⟩) b.length cap3) a (w'.drewN n) (H4.out.bs.drewN n) (by have := Hal2.out; omega)
  rw [Hai.out] at HI
  clear q1 q2
  go_quiet ((go_at_call 16; exact Calls.quiet_of_same ((HI _).mono fun _ _ ⟨x, y⟩ => ⟨x, y.symm⟩)))
  go_wp2_with fail
  go_ret
  exact ⟨rfl, below_drewN HB4.out _⟩
end Go.Proofs.Ytbjiicnagfeciaa
