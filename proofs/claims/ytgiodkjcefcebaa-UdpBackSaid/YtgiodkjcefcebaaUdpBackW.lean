/- The walk of UdpBack. -/
import Derived.Test.YtgiodkjcefcebaaUdpL
import Derived.Test.YtgiodkjcefcebaaKept
import Derived.Test.YtgiodkjcefcebaaUdpLaw
import Derived.Deep.RegionHeld3
import Derived.Laws.BitsAllLaws
import Derived.Deep.Cut
import Derived.Deep.CutRange
namespace Go.Proofs.Ytgiodkjcefcebaa
open Go Go.RowKit
attribute [local go_sem ↓] Go.wp_at_zero Go.wp_at_succ

theorem flip_u8 (x : UInt8) (mm : Nat) (h : mm < 8) : Value.int .u8 (bits .xor .u8 (x.toNat : Int) (IntKind.u8.wrap (2 ^ mm))) = u8v (UInt8.ofNat (x.toNat ^^^ 2 ^ mm)) := by
  have h1 : 2 ^ mm < 256 := Nat.pow_lt_pow_right (by decide) h
  have h2 : x.toNat ^^^ 2 ^ mm < 256 := Nat.xor_lt_two_pow (n := 8) x.toNat_lt h1
  have h3 : IntKind.u8.wrap ((2 : Int) ^ mm) = ((2 ^ mm : Nat) : Int) := by
    have e : (2 : Int) ^ mm = ((2 ^ mm : Nat) : Int) := by simp
    rw [IntKind.wrap_u8, e]
    clear h2 e
    generalize 2 ^ mm = z at h1 ⊢
    omega
  rw [h3, u8_xor_nat _ _ x.toNat_lt h1, u8v, UInt8.toNat_ofNat', Nat.mod_eq_of_lt h2]

set_option maxHeartbeats 2000000 in
theorem udpBack_walk (v : Value) (data : List UInt8) (vm : Value) (more : List UInt8) (src dst : Nat) (f t at_ bit : Int) (w : World) (h : Bs w v data) (h2 : Bs w vm more) (hs : src < 4294967296) (hd : dst < 4294967296) :
    Calls Try.prog 4 #[.int .u32 src, .int .u32 dst, .agg #[.int .i64 f, .int .i64 t, v], vm, .int .i64 at_, .int .i64 bit] w fun e w' => e = .returned (.bool true) ∧ Below w.heap.size w w' := by
  have HB := hid h; have HD := hid h2
  obtain ⟨A, cap, rfl, k1, k2, _⟩ := h.cells
  obtain ⟨A2, cap2, rfl, k3, k4, _⟩ := h2.cells
  clear h h2
  have K0 := hid (((Kept.new w).add HB.out).add HD.out)
  by_cases hbig : data.length > 70000 ∨ more.length > 3000
  · by_cases g1 : (data.length : Int) > 70000
    · go_enter Try.func4, Try.ntmps4
      go_wp2_with ((go_at_call 6; refine (known_any _).mono ?_; rintro e w' ⟨rfl, hb1⟩); have K1 := hid (((K0.out.step (below_alloc w _)).addB (Blk.new w _ _)).step hb1); have hc2 := (K1.out.b 0 rfl).cell 2; have hc0 := (K1.out.b 0 rfl).cell 0; have hc1 := (K1.out.b 0 rfl).cell 1; clear hb1)
      go_ret
      exact ⟨rfl, K1.out.bel⟩
    · have g2 : (more.length : Int) > 3000 := by omega
      go_enter Try.func4, Try.ntmps4
      go_wp2_with ((go_at_call 6; refine (known_any _).mono ?_; rintro e w' ⟨rfl, hb1⟩); have K1 := hid (((K0.out.step (below_alloc w _)).addB (Blk.new w _ _)).step hb1); have hc2 := (K1.out.b 0 rfl).cell 2; have hc0 := (K1.out.b 0 rfl).cell 0; have hc1 := (K1.out.b 0 rfl).cell 1; clear hb1)
      go_ret
      exact ⟨rfl, K1.out.bel⟩
  have g1 : ¬ (data.length : Int) > 70000 := by omega
  have g2 : ¬ (more.length : Int) > 3000 := by omega
  have hl : data.length ≤ 1099511627776 := by omega
  by_cases hno : (udpWrite src dst f t data).2 ≠ 0
  · have HW := hid (show udpWrite src dst f t data = ([], (udpWrite src dst f t data).2) by
      revert hno; unfold udpWrite; split
      · intro _; rfl
      · split
        · intro _; rfl
        · intro h; exact absurd rfl h)
    have hne : ((udpWrite src dst f t data).2 != 0) = true := by simpa using hno
    generalize (udpWrite src dst f t data).2 = qe at *
    go_enter Try.func4, Try.ntmps4
    go_wp2_with (first
      | ((go_at_call 6; refine (known_any _).mono ?_; rintro e w' ⟨rfl, hb1⟩); have K1 := hid (((K0.out.step (below_alloc w _)).addB (Blk.new w _ _)).step hb1); have hc2 := (K1.out.b 0 rfl).cell 2; have hc0 := (K1.out.b 0 rfl).cell 0; have hc1 := (K1.out.b 0 rfl).cell 1; clear hb1)
      | ((with_reducible show wpList _ _ _ (Oper.mk (some 39) _ _ _ _ _ :: _) _ _); refine wpList_loadBlk rfl _ _ rfl _ rfl _ _ _ (K1.out.b 0 rfl) Try.underlying25 dginfo ?_)
      | ((go_at_call 9; refine (write_any _ data src dst f t _ (K1.out.r 1 rfl) hl hs hd).mono ?_; rintro e w' ⟨v8, rfl, hown, hb⟩); rw [HW.out] at hown ⊢; simp only at hown ⊢; obtain ⟨A3, cap3, rfl, _, _, _⟩ := hown.bs.cells; have K2 := hid (K1.out.step hb); clear hown hb))
    go_ret
    exact ⟨rfl, K2.out.bel⟩
  obtain ⟨nf, nt, B, hf, ht, hl2, HW, HBl, HP1, HP2, HP3, HP4⟩ : ∃ (nf nt : Nat) (B : List UInt8), f = nf ∧ t = nt ∧ data.length ≤ 65507 ∧ Hid (udpWrite src dst f t data = (B, 0)) ∧ Hid (B.length = 8 + data.length) ∧
      Hid (udpParse src dst (B ++ more) = ((nf, nt, data), 0)) ∧ Hid (udpParse (src ^^^ 1) dst B = ((0, 0, []), 13)) ∧
      Hid (∀ (k : Nat) (y : UInt8) (hk : k < B.length), (k < 4 ∨ 8 ≤ k) → B[k] ≠ y → udpParse src dst (B.set k y) = ((0, 0, []), 13)) ∧ Hid (∀ k, k < B.length → udpParse src dst (B.take k) = ((0, 0, []), 11)) := by
    unfold udpWrite at hno
    by_cases hr : f < 0 ∨ f > 65535 ∨ t < 0 ∨ t > 65535
    · rw [if_pos hr] at hno; exact absurd (by decide) hno
    rw [if_neg hr] at hno
    by_cases h5 : data.length > 65507
    · rw [if_pos h5] at hno; exact absurd (by decide) hno
    refine ⟨f.toNat, t.toNat, udpFull src dst f.toNat t.toNat data, by omega, by omega, by omega, hid (by unfold udpWrite; rw [if_neg hr, if_neg h5]), ?_⟩
    have a1 : f.toNat ≤ 65535 := by omega
    have a2 : t.toNat ≤ 65535 := by omega
    have a3 : data.length ≤ 65507 := by omega
    exact ⟨hid (full_at src dst _ _ data a1 a2 a3).1, hid (parse_full src dst _ _ data more a1 a2 a3), hid (parse_other src dst _ _ data a1 a2 a3), hid (fun k y hk h1 h2 => parse_turned src dst _ _ data k y a1 a2 a3 hk h1 h2), hid (fun k hk => parse_cut src dst _ _ data k a1 a2 a3 hk)⟩
  subst hf; subst ht
  clear hno
  have hX : bits .xor .u32 (src : Int) 1 = ((src ^^^ 1 : Nat) : Int) := u32_xor_nat src 1 hs (by decide)
  have hx32 : src ^^^ 1 < 4294967296 := Nat.xor_lt_two_pow (n := 32) hs (by decide)
  obtain ⟨ii, hii, hz, hss, hby⟩ := info_parts u8info
  clear hz hby
  go_enter Try.func4, Try.ntmps4
  go_upto_region 14 with (first
    | ((go_at_call 6; refine (known_any _).mono ?_; rintro e w' ⟨rfl, hb1⟩); have K1 := hid (((K0.out.step (below_alloc w _)).addB (Blk.new w _ _)).step hb1); have hc2 := (K1.out.b 0 rfl).cell 2; have hc0 := (K1.out.b 0 rfl).cell 0; have hc1 := (K1.out.b 0 rfl).cell 1; clear hb1)
    | ((with_reducible show wpList _ _ _ (Oper.mk (some 39) _ _ _ _ _ :: _) _ _); refine wpList_loadBlk rfl _ _ rfl _ rfl _ _ _ (K1.out.b 0 rfl) Try.underlying25 dginfo ?_)
    | ((go_at_call 9; refine (write_any _ data src dst nf nt _ (K1.out.r 1 rfl) hl hs hd).mono ?_; rintro e w' ⟨v8, rfl, hown, hb⟩); rw [HW.out] at hown ⊢; simp only at hown ⊢; obtain ⟨A3, cap3, rfl, _, _, _⟩ := hown.bs.cells; have K2 := hid ((K1.out.step hb).add hown.bs); clear hown hb)
    | ((with_reducible show wpList _ _ _ (Oper.mk (some 53) _ _ _ _ _ :: _) _ _); refine wpList_app8 _ rfl _ _ 23 rfl w'.heap.size 5 u8ok (.slice (some ⟨w'.heap.size, 0, none⟩) 0 0) [] rfl (ownBs_litNil rfl (Nat.le_refl _)) _ B rfl ((K2.out.r 0 rfl).alloc _) (by simp; have := HBl.out; omega) (by simp) ?_; intro v3 w3 hown3 hb3 hg3 hat3; clear hg3 hat3; rw [List.nil_append] at hown3; have H3 := hid hown3; have Hb3 := hid ((below_alloc w' _).trans hb3); clear hown3 hb3)
    | ((with_reducible show wpList _ _ _ (Oper.mk (some 55) _ _ _ _ _ :: _) _ _); refine wpList_app8 _ rfl _ _ 23 rfl w'.heap.size 5 u8ok _ _ rfl H3.out _ more rfl ((K2.out.r 1 rfl).below Hb3.out) (by have := HBl.out; omega) Hb3.out.size ?_; intro v4 w4 hown4 hb4 hg4 hat4; clear hg4 hat4; have K4 := hid ((K2.out.step (Hb3.out.trans hb4)).add hown4.bs); clear hown4 hb4)
    | ((go_at_call 7; refine (parse_any _ B (src ^^^ 1) dst _ (K6.out.r 2 rfl) (by have := HBl.out; omega) hx32 hd).mono ?_; rintro e w' ⟨v2, rfl, hown, hb⟩); rw [HP2.out] at hown ⊢; simp only at hown ⊢; obtain ⟨A7, cap7, rfl, _, _, _⟩ := hown.bs.cells; have K7 := hid (K6.out.step hb); clear hown hb)
    | ((go_at_call 7; refine (parse_any _ (B ++ more) src dst _ (K4.out.r 0 rfl) (by have := HBl.out; simp; omega) hs hd).mono ?_; rintro e w' ⟨v2, rfl, hown, hb⟩); rw [HP1.out] at hown ⊢; simp only at hown ⊢; obtain ⟨A5, cap5, rfl, _, _, _⟩ := hown.bs.cells; have K5 := hid ((K4.out.step hb).add hown.bs); clear hown hb)
    | ((with_reducible show wpList _ _ _ (Oper.mk none _ _ _ _ _ :: _) _ _); refine wpList_storeBlk rfl _ _ _ rfl _ _ rfl rfl _ _ (Blk.new _ _ _) dginfo rfl rfl ?_; intro w8 hblk8 hg8 hsz8; have K8 := hid (K7.out.step (below_new_store hg8)); clear hblk8 hg8 hsz8)
    | ((with_reducible show wpList _ _ _ (Oper.mk none _ _ _ _ _ :: _) _ _); refine wpList_storeBlk rfl _ _ _ rfl _ _ rfl rfl _ _ (Blk.new _ _ _) dginfo rfl rfl ?_; intro w6 hblk6 hg6 hsz6; have K6 := hid ((K5.out.step (below_new_store hg6)).addB hblk6); have hc60 := (K6.out.b 0 rfl).cell 0; have hc61 := (K6.out.b 0 rfl).cell 1; have hc62 := (K6.out.b 0 rfl).cell 2; have hc63 := (K6.out.b 1 rfl).cell 0; have hc64 := (K6.out.b 1 rfl).cell 1; have hc65 := (K6.out.b 1 rfl).cell 2; have s61 := run_str Try.underlying23 Try.underlying5 Try.underlying9 (K6.out.r 0 rfl); have s62 := run_str Try.underlying23 Try.underlying5 Try.underlying9 (K6.out.r 4 rfl); clear hblk6 hg6 hsz6)
    | ((with_reducible show wpList _ _ _ (Oper.mk (some 94) _ _ _ _ _ :: _) _ _); refine wpList_app8 _ rfl _ _ 23 rfl w8.heap.size 5 u8ok (.slice (some ⟨w8.heap.size, 0, none⟩) 0 0) [] rfl (ownBs_litNil rfl (Nat.le_refl _)) _ B rfl ((K8.out.r 2 rfl).alloc _) (by simp; have := HBl.out; omega) (by simp) ?_; intro v9 w9 hown9 hb9 hg9 hat9; clear hg9 hat9; rw [List.nil_append] at hown9; obtain ⟨g, cap9, rfl, q1, q2, q3⟩ := own_open hown9 (by have := HBl.out; omega); have H9 := hid hown9; have Hb9 := hid ((below_alloc w8 _).trans hb9); have K9 := hid (K8.out.step Hb9.out); clear hown9 hb9)
    | ((go_at_call 12; refine (within_any at_ B.length _ (by have := HBl.out; omega) (by have := HBl.out; omega)).mono ?_; rintro e w' ⟨k, hk, rfl, rfl⟩)))
  have ck := run_cut_to (P := Try.prog) (T := 23) Try.underlying23 hii A3 B.length cap3 .i64 k k rfl (by omega)
  rw [hss] at ck
  have Hcut := hid (show ∀ wx, Bs wx (.slice A3 B.length cap3) B → Bs wx (.slice (cutA A3 cap3 0 1) k cap3) (B.take k) from fun wx hx => by have := Bs.cut (l := 0) (k := k) hx (by omega); simpa using this)
  have HP6 := hid (HP4.out k hk)
  have HCl := hid (show ∀ y, (B.set k y).length = B.length from fun y => by simp)
  by_cases hmid : 4 ≤ k ∧ k < 8
  · have m1 : ¬ (k : Int) < 4 := by omega
    have m2 : ¬ (k : Int) ≥ 8 := by omega
    go_wp2_with (first
      | ((go_at_call 7; refine (parse_any _ (B.take k) src dst _ (Hcut.out _ (K9.out.r 2 rfl)) (by simp; have := HBl.out; omega) hs hd).mono ?_; rintro e w' ⟨v2, rfl, hown, hb⟩); rw [HP6.out] at hown ⊢; simp only at hown ⊢; obtain ⟨A13, cap13, rfl, _, _, _⟩ := hown.bs.cells; have K13 := hid (K9.out.step hb); clear hown hb)
      | ((with_reducible show wpList _ _ _ (Oper.mk none _ _ _ _ _ :: _) _ _); refine wpList_storeBlk rfl _ _ _ rfl _ _ rfl rfl _ _ (Blk.new _ _ _) dginfo rfl rfl ?_; intro w14 hblk14 hg14 hsz14; have K14 := hid (K13.out.step (below_new_store hg14)); clear hblk14 hg14 hsz14))
    go_ret
    exact ⟨rfl, K14.out.bel⟩
  have Hck := hid (show k < 4 ∨ 8 ≤ k by omega)
  have hdec : (decide ((k : Int) < 4) || decide ((k : Int) ≥ 8)) = true := by simp; omega
  have hcell := (own_cell H9.out k hk).1
  have hfroz := (own_cell H9.out k hk).2
  unfold u8v at hcell
  go_upto_region 15 with (fail)
  all_goals go_region_law (first
    | (go_simp; (go_at_call 12; (with_reducible refine (within_at bit 8 8 _ rfl (by decide) (by decide)).mono ?_); rintro e w' ⟨kb, hkb, rfl, rfl⟩))
    | fail)
  all_goals
    obtain ⟨hown10, hg10⟩ := own_set H9.out k (UInt8.ofNat (B[k].toNat ^^^ 2 ^ kb)) (.int .u8 (bits .xor .u8 (B[k].toNat : Int) (IntKind.u8.wrap (2 ^ kb)))) (flip_u8 B[k] kb hkb)
    have HP5 := hid (HP3.out k (UInt8.ofNat (B[k].toNat ^^^ 2 ^ kb)) hk Hck.out (byte_flip B[k] kb hkb))
    have K10 := hid ((K8.out.step ((below_own Hb9.out hg10 q2 Hb9.out.size).drew)).add hown10.drew.bs)
    clear hown10 hg10
    generalize (w9.setCell ⟨g, k, none⟩ (.int .u8 (bits .xor .u8 (B[k].toNat : Int) (IntKind.u8.wrap (2 ^ kb))))).drew = w10 at *
    have HCl := hid (HCl.out (UInt8.ofNat (B[k].toNat ^^^ 2 ^ kb)))
    generalize B.set k (UInt8.ofNat (B[k].toNat ^^^ 2 ^ kb)) = C at *
    go_wp2_with (first
      | ((go_at_call 7; refine (parse_any _ (B.take k) src dst _ (Hcut.out _ (K12.out.r 3 rfl)) (by simp; have := HBl.out; omega) hs hd).mono ?_; rintro e w' ⟨v2, rfl, hown, hb⟩); rw [HP6.out] at hown ⊢; simp only at hown ⊢; obtain ⟨A13, cap13, rfl, _, _, _⟩ := hown.bs.cells; have K13 := hid (K12.out.step hb); clear hown hb)
      | ((go_at_call 7; refine (parse_any _ C src dst _ (K10.out.r 0 rfl) (by have := HCl.out; have := HBl.out; omega) hs hd).mono ?_; rintro e w' ⟨v2, rfl, hown, hb⟩); rw [HP5.out] at hown ⊢; simp only at hown ⊢; obtain ⟨A11, cap11, rfl, _, _, _⟩ := hown.bs.cells; have K11 := hid (K10.out.step hb); clear hown hb)
      | ((with_reducible show wpList _ _ _ (Oper.mk none _ _ _ _ _ :: _) _ _); refine wpList_storeBlk rfl _ _ _ rfl _ _ rfl rfl _ _ (Blk.new _ _ _) dginfo rfl rfl ?_; intro w14 hblk14 hg14 hsz14; have K14 := hid (K13.out.step (below_new_store hg14)); clear hblk14 hg14 hsz14)
      | ((with_reducible show wpList _ _ _ (Oper.mk none _ _ _ _ _ :: _) _ _); refine wpList_storeBlk rfl _ _ _ rfl _ _ rfl rfl _ _ (Blk.new _ _ _) dginfo rfl rfl ?_; intro w12 hblk12 hg12 hsz12; have K12 := hid (K11.out.step (below_new_store hg12)); clear hblk12 hg12 hsz12))
    go_ret
    exact ⟨rfl, K14.out.bel⟩
end Go.Proofs.Ytgiodkjcefcebaa
