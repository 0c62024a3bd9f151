/- The walk of TcpBack. -/
import Derived.Test.YtahlcjkcdgahkaaSegL
import Derived.Test.YtahlcjkcdgahkaaSegD
import Derived.Test.YtahlcjkcdgahkaaTcpWi
import Derived.Laws.BitsAllLaws
import Derived.Test.YtahlcjkcdgahkaaRegion
namespace Go.Proofs.Ytahlcjkcdgahkaa
open Go Go.RowKit
attribute [local go_sem ↓] Go.wp_at_zero Go.wp_at_succ
set_option maxRecDepth 100000

theorem flip_u8 (x : UInt8) (mm : Nat) (h : mm < 8) : Value.int .u8 (bits .xor .u8 (x.toNat : Int) (IntKind.u8.wrap (2 ^ mm))) = u8v (UInt8.ofNat (x.toNat ^^^ 2 ^ mm)) := by
  have h1 : 2 ^ mm < 256 := Nat.pow_lt_pow_right (by decide) h
  have h2 : x.toNat ^^^ 2 ^ mm < 256 := Nat.xor_lt_two_pow (n := 8) x.toNat_lt h1
  have h3 : IntKind.u8.wrap ((2 : Int) ^ mm) = ((2 ^ mm : Nat) : Int) := by
    have e : (2 : Int) ^ mm = ((2 ^ mm : Nat) : Int) := by simp
    rw [IntKind.wrap_u8, e]
    clear h2 e
    generalize 2 ^ mm = z at h1 ⊢
    omega
  rw [h3, u8_xor_nat _ _ x.toNat_lt h1, u8v, UInt8.toNat_ofNat', Nat.mod_eq_of_lt h2]
/-- what is written, and what it says -/
theorem segWrite_cases (src dst : Nat) (s : TSeg) (hsq : s.seq < 4294967296) (hak : s.ack < 4294967296) : (∃ c : Int, c ≠ 0 ∧ segWrite src dst s = ([], c)) ∨
    (SegFit s ∧ s.data.length ≤ 65000 ∧ segWrite src dst s = (segBytes s (segSum src dst (segBytes s 0)), 0)) := by
  unfold segWrite
  split
  · exact .inl ⟨1, by decide, rfl⟩
  split
  · exact .inl ⟨1, by decide, rfl⟩
  split
  · exact .inl ⟨5, by decide, rfl⟩
  · exact .inr ⟨⟨by omega, by omega, hsq, hak, by omega, by omega, by omega⟩, by omega, rfl⟩
set_option maxHeartbeats 8000000 in
theorem tcpBack_walk (src dst : Nat) (s : TSeg) (v : Value) (at_ bit : Int) (w : World) (h : Bs w v s.data) (hs : src < 4294967296) (hd : dst < 4294967296) (hsq : s.seq < 4294967296) (hak : s.ack < 4294967296) :
    Calls Try.prog 11 #[.int .u32 src, .int .u32 dst, s.val v, .int .i64 at_, .int .i64 bit] w fun e w' => e = .returned (.bool true) ∧ Below w.heap.size w w' := by
  obtain ⟨f, t, sq, ak, fl, wi, ms, data⟩ := s
  obtain ⟨n, hn⟩ : ∃ n, data.length = n := ⟨_, rfl⟩
  obtain ⟨A, cap, rfl⟩ := slice_len h hn
  have Hb := hid h
  have Hn := hid hn
  have HC := segWrite_cases src dst ⟨f, t, sq, ak, fl, wi, ms, data⟩ hsq hak
  have Hnum := hid (And.intro hs (And.intro hd (And.intro hsq hak)))
  dsimp only [TSeg.val, TSeg.cells]
  clear h hn hs hd hsq hak
  by_cases hbig : n > 66000
  · have t1 : (n : Int) > 66000 := by omega
    go_enter Try.func11, Try.ntmps11
    go_wp2_with (go_at_call 13; refine (known_any _).mono ?_; rintro e w1 ⟨rfl, hb⟩; have Hb1 := hid ((below_alloc w _).trans (hb.mono (below_alloc w _).size)); have B1 := hid ((Blk.new w 30 _).keep hb); have e7 := B1.out.cell 7; clear hb)
    go_ret
    exact ⟨rfl, Hb1.out⟩
  have t1 : ¬ (n : Int) > 66000 := by omega
  have HW := hid (fun wx (hx : Bs wx (.slice A n cap) data) => twrite_any f t sq ak fl wi ms data A n cap src dst wx hx (by have := Hn.out; omega) Hnum.out.1 Hnum.out.2.1 Hnum.out.2.2.1 Hnum.out.2.2.2)
  rcases HC with ⟨c, hc0, hc⟩ | ⟨hfit, hl, hw⟩
  · have Hc := hid hc
    have hcb : (c != 0) = true := by simpa using hc0
    clear hc hc0
    go_enter Try.func11, Try.ntmps11
    go_wp2_with (first
      | (go_at_call 13; refine (known_any _).mono ?_; rintro e w1 ⟨rfl, hb⟩; have Hb1 := hid ((below_alloc w _).trans (hb.mono (below_alloc w _).size)); have B1 := hid ((Blk.new w 30 _).keep hb); have e7 := B1.out.cell 7; clear hb)
      | ((with_reducible show wpList _ _ _ (Oper.mk (some 28) _ _ _ _ _ :: _) _ _); refine wpList_loadBlk rfl _ _ rfl _ rfl _ _ _ B1.out Try.underlying30 seginfo ?_)
      | (go_at_call 30; refine (HW.out _ (Hb.out.below Hb1.out)).mono ?_; rintro e w2 ⟨v2, rfl, hown, hb⟩; rw [Hc.out] at hown ⊢; simp only at hown ⊢; obtain ⟨A2, cap2, rfl⟩ := slice_len hown.bs (n := 0) rfl; have Hb2 := hid (Hb1.out.trans (hb.mono Hb1.out.size)); clear hown hb))
    go_ret
    exact ⟨rfl, Hb2.out⟩
  · have Hw := hid hw
    have HPB := hid (segParse_back src dst _ hfit)
    have HPT := hid (segParse_turned src dst ⟨f, t, sq, ak, fl, wi, ms, data⟩)
    have hBl := segBytes_length ⟨f, t, sq, ak, fl, wi, ms, data⟩ (segSum src dst (segBytes ⟨f, t, sq, ak, fl, wi, ms, data⟩ 0))
    obtain ⟨B, hB⟩ : ∃ B, segBytes ⟨f, t, sq, ak, fl, wi, ms, data⟩ (segSum src dst (segBytes ⟨f, t, sq, ak, fl, wi, ms, data⟩ 0)) = B := ⟨_, rfl⟩
    rw [hB] at Hw HPB HPT hBl
    obtain ⟨L, hL⟩ : ∃ L, B.length = L := ⟨_, rfl⟩
    have hL1 : 20 ≤ L ∧ L ≤ 66024 := by rw [hL] at hBl; simp only [Hn.out] at hBl; simp only [Hn.out] at hl; split at hBl <;> omega
    have HL := hid hL
    have HL1 := hid hL1
    clear hfit hw hBl hB hl hL hL1
    go_enter Try.func11, Try.ntmps11
    go_upto_region 8 with (first
      | (go_at_call 13; refine (known_any _).mono ?_; rintro e w1 ⟨rfl, hb⟩; have Hb1 := hid ((below_alloc w _).trans (hb.mono (below_alloc w _).size)); have B1 := hid ((Blk.new w 30 _).keep hb); have e7 := B1.out.cell 7; clear hb)
      | ((with_reducible show wpList _ _ _ (Oper.mk (some 28) _ _ _ _ _ :: _) _ _); refine wpList_loadBlk rfl _ _ rfl _ rfl _ _ _ B1.out Try.underlying30 seginfo ?_)
      | (go_at_call 30; refine (HW.out _ (Hb.out.below Hb1.out)).mono ?_; rintro e w2 ⟨v2, rfl, hown, hb⟩; rw [Hw.out] at hown ⊢; simp only at hown ⊢; obtain ⟨A2, cap2, rfl⟩ := slice_len hown.bs HL.out; have Hb2 := hid (Hb1.out.trans (hb.mono Hb1.out.size)); have H2 := hid hown.bs; have B2 := hid (B1.out.keep hb); clear hown hb))
    have HP := hid (tparse_any _ B src dst w2 H2.out (by rw [HL.out]; have := HL1.out; omega) Hnum.out.1 Hnum.out.2.1)
    clear e7
    obtain ⟨ii, hii, hz, hss, hby⟩ := info_parts u8info
    clear hz hby
    go_upto_region 9 with (first
      | (go_at_call 31; refine HP.out.mono ?_; rintro e w3 ⟨v3, rfl, hown, hb⟩; rw [HPB.out] at hown ⊢; dsimp only [TSeg.cells] at hown ⊢; obtain ⟨A3, cap3, rfl⟩ := slice_len hown.bs Hn.out; have Hb3 := hid (Hb2.out.trans (hb.mono Hb2.out.size)); have H3 := hid hown.bs; have B3 := hid (B2.out.keep hb); have H23 := hid (H2.out.below hb); clear hown hb)
      | ((with_reducible show wpList _ _ _ (Oper.mk none _ _ _ _ _ :: _) _ _); refine wpList_storeBlk rfl _ _ _ rfl _ _ rfl rfl _ _ (Blk.new _ _ _) seginfo rfl rfl ?_; intro w4 hblk hg hsz; have hb := below_new_store hg; have Hb4 := hid (Hb3.out.trans (hb.mono Hb3.out.size)); have H4 := hid (H3.out.below hb); have B4 := hid (B3.out.keep hb); have C4 := hid hblk; have H24 := hid (H23.out.below hb); clear hblk hg hsz hb))
    clear HP HPB HW
    obtain ⟨c0, c1, c2, c3, c4, c5, c6, c7⟩ := blk8 B4.out
    obtain ⟨d0, d1, d2, d3, d4, d5, d6, d7⟩ := blk8 C4.out
    have s61 := run_str Try.underlying28 Try.underlying5 Try.underlying9 H4.out
    have s62 := run_str Try.underlying28 Try.underlying5 Try.underlying9 (Hb.out.below Hb4.out)
    go_upto_region 11 with fail
    clear c0 c1 c2 c3 c4 c5 c6 c7 d0 d1 d2 d3 d4 d5 d6 d7 s61 s62
    have HWi := hid (fun wx => within_at at_ L L wx rfl (by have := HL1.out; omega) (by have := HL1.out; omega))
    go_upto_region 13 with (first
      | ((with_reducible show wpList _ _ _ (Oper.mk (some 106) _ _ _ _ _ :: _) _ _); refine wpList_app8 _ rfl _ _ 28 rfl w4.heap.size 5 u8ok (.slice (some ⟨w4.heap.size, 0, none⟩) 0 0) [] rfl (ownBs_litNil rfl (Nat.le_refl _)) _ B rfl (H24.out.alloc _) (by have := HL.out; have := HL1.out; simp; omega) (by simp) ?_; intro v9 w9 hown9 hb9 hg9 hat9; clear hg9 hat9; rw [List.nil_append] at hown9; obtain ⟨g, cap9, rfl, q1, q2, q3⟩ := own_open hown9 (by have := HL.out; have := HL1.out; omega); rw [HL.out] at hown9 ⊢; have H9 := hid hown9; have Hb9 := hid ((below_alloc w4 _).trans hb9); clear hown9 hb9)
      | (go_at_call 15; refine (HWi.out _).mono ?_; rintro e w' ⟨k, hk, rfl, rfl⟩))
    have Hb10 := hid (Hb4.out.trans (Hb9.out.mono Hb4.out.size))
    by_cases hk12 : k = 12
    · subst hk12
      go_wp2_with fail
      go_ret
      exact ⟨rfl, Hb10.out⟩
    have hk12b : ((k : Int) == 12) = false := by simp; omega
    have hkB : k < B.length := by rw [HL.out]; exact hk
    have hcell := (own_cell H9.out k hkB).1
    have hfroz := (own_cell H9.out k hkB).2
    unfold u8v at hcell
    have Hk12 := hid hk12
    clear hk12
    go_upto_region 15 with fail
    go_region_law (first
      | (go_simp; (go_at_call 15; (with_reducible refine (within_at bit 8 8 _ rfl (by decide) (by decide)).mono ?_); rintro e w' ⟨kb, hkb, rfl, rfl⟩))
      | fail)
    all_goals
      obtain ⟨hown10, hg10⟩ := own_set H9.out k (UInt8.ofNat (B[k].toNat ^^^ 2 ^ kb)) (.int .u8 (bits .xor .u8 (B[k].toNat : Int) (IntKind.u8.wrap (2 ^ kb)))) (flip_u8 B[k] kb hkb)
      have HP5 := hid (HPT.out k (UInt8.ofNat (B[k].toNat ^^^ 2 ^ kb)) hkB Hk12.out (byte_flip B[k] kb hkb))
      have Hb11 := hid ((below_own Hb10.out hg10 (Nat.le_trans Hb4.out.size q2) Hb10.out.size).drew)
      have H11 := hid hown10.drew.bs
      clear hown10 hg10
      generalize (w9.setCell ⟨g, k, none⟩ (.int .u8 (bits .xor .u8 (B[k].toNat : Int) (IntKind.u8.wrap (2 ^ kb))))).drew = w11 at *
      have HCl := hid (show (B.set k (UInt8.ofNat (B[k].toNat ^^^ 2 ^ kb))).length = L by rw [List.length_set]; exact HL.out)
      generalize B.set k (UInt8.ofNat (B[k].toNat ^^^ 2 ^ kb)) = C at *
      have HP := hid (tparse_any _ C src dst w11 H11.out (by rw [HCl.out]; have := HL1.out; omega) Hnum.out.1 Hnum.out.2.1)
      go_wp2_with (first
        | (go_at_call 31; refine HP.out.mono ?_; rintro e w12 ⟨v12, rfl, hown, hb⟩; rw [HP5.out] at hown ⊢; dsimp only [TSeg.cells, seg0] at hown ⊢; obtain ⟨A12, cap12, rfl⟩ := slice_len hown.bs (n := 0) rfl; have Hb12 := hid (Hb11.out.trans (hb.mono Hb11.out.size)); clear hown hb)
        | ((with_reducible show wpList _ _ _ (Oper.mk none _ _ _ _ _ :: _) _ _); refine wpList_storeBlk rfl _ _ _ rfl _ _ rfl rfl _ _ (Blk.new _ _ _) seginfo rfl rfl ?_; intro w14 hblk hg hsz; have Hb14 := hid (Hb12.out.trans ((below_new_store hg).mono Hb12.out.size)); clear hblk hg hsz))
      go_ret
      exact ⟨rfl, Hb14.out⟩
end Go.Proofs.Ytahlcjkcdgahkaa
