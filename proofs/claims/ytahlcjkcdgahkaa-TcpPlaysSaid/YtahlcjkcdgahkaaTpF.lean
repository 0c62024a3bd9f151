/- TcpPlays: any call of both; how both begin. -/
import Derived.Test.YtahlcjkcdgahkaaTpD
import Derived.BigRegion
namespace Go.Proofs.Ytahlcjkcdgahkaa
section
open Go Go.RowKit
attribute [local go_sem ↓] Go.wp_at_zero Go.wp_at_succ
set_option maxRecDepth 100000
set_option linter.unusedSimpArgs false

theorem near_ak (u ak d : Nat) : ((u : Int) + (ak : Int) % ((d : Int) + 2)) % 4294967296 = ((u + ak % (d + 2)) % 4294967296 : Nat) := by
  have h0 : ((ak % (d + 2) : Nat) : Int) = (ak : Int) % ((d : Int) + 2) := by rw [Int.natCast_emod, Int.natCast_add]; rfl
  rw [← h0]
  omega
theorem own_ne_blk {w : World} {base g : Nat} {t e : TypeId} {v : Value} {bs : List UInt8} {xs : List Value} (h : OwnBs w base e v bs) (hb : Blk w g t xs) (ht : t ≠ e) : v.ownBlock ≠ some g := (RowAtS.of_own h).ne hb ht
section
variable {E : PlEnt} {w0 w : World} {gc gx : Nat} {c : TConn} {m q : Nat} {F FX : Nat → Prop}
set_option maxHeartbeats 4000000 in
theorem done_take (kind : Int) (hk : kind = 1) (nn : Int) (near : Bool) (f t : Int) (sq ak : Nat) (fl wi ms : Int) (A : Option Addr) (n cap : Nat) (data : List UInt8) (hsq : sq < 4294967296) (hak : ak < 4294967296) (hd : Bs w (.slice A n cap) data) (hl : n ≤ 4000) (hm : m ≤ 900000) (hq : q ≤ 900000) (h : PlSt E w0 w gc gx c c m q F FX) :
    Calls Try.prog 26 #[.pointer (some ⟨gc, 0, none⟩), .pointer (some ⟨gx, 0, none⟩), .agg #[.int .i64 kind, .int .i64 nn, .bool near, .int .i64 f, .int .i64 t, .int .u32 (sq : Int), .int .u32 (ak : Int), .int .i64 fl, .int .i64 wi, .int .i64 ms, .slice A n cap]] w (DonePost E w0 gc gx m q n) := by
  have hdl : data.length = n := hd.open.1
  have Hdl := hid hdl
  have Hl := hid hl
  have Hmq := hid (And.intro hm hq)
  have Hsq := hid (And.intro hsq hak)
  have H1 := hid (h.keep (below_alloc w (.cells #[.int .i64 kind, .int .i64 nn, .bool near, .int .i64 f, .int .i64 t, .int .u32 (sq : Int), .int .u32 (ak : Int), .int .i64 fl, .int .i64 wi, .int .i64 ms, .slice A n cap] 54)))
  have BX := hid (Blk.new w 54 #[.int .i64 kind, .int .i64 nn, .bool near, .int .i64 f, .int .i64 t, .int .u32 (sq : Int), .int .u32 (ak : Int), .int .i64 fl, .int .i64 wi, .int .i64 ms, .slice A n cap])
  have D1 := hid (hd.alloc (.cells #[.int .i64 kind, .int .i64 nn, .bool near, .int .i64 f, .int .i64 t, .int .u32 (sq : Int), .int .u32 (ak : Int), .int .i64 fl, .int .i64 wi, .int .i64 ms, .slice A n cap] 54))
  clear h hd hdl hl hm hq hsq hak
  subst hk
  go_enter Try.func26, Try.ntmps26
  go_upto_region 1 with fail
  obtain ⟨gb, hgb⟩ : ∃ g, w.heap.size = g := ⟨_, rfl⟩
  rw [hgb] at BX ⊢
  generalize w.alloc (.cells #[.int .i64 1, .int .i64 nn, .bool near, .int .i64 f, .int .i64 t, .int .u32 (sq : Int), .int .u32 (ak : Int), .int .i64 fl, .int .i64 wi, .int .i64 ms, .slice A n cap] 54) = w1 at *
  have b0 := BX.out.cell 0
  have b2 := BX.out.cell 2
  clear hgb
  go_upto_region 4 with (first
    | ((with_reducible show wpList _ _ _ (Oper.mk (some 19) _ _ _ _ _ :: _) _ _); refine wpList_load_mid rfl _ _ rfl gb 3 rfl _ _ (show w1.rangeAt gb 3 [.int .i64 f, .int .i64 t, .int .u32 (sq : Int), .int .u32 (ak : Int), .int .i64 fl, .int .i64 wi, .int .i64 ms, .slice A n cap] from BX.out.range 3) Try.underlying30 rfl seginfo ?_)
    | ((with_reducible show wpList _ _ _ (Oper.mk none _ _ _ _ _ :: _) _ _); refine wpList_storeBlk rfl _ _ _ rfl _ _ rfl rfl _ _ (Blk.new _ _ _) seginfo rfl rfl ?_; intro w4 hblk hg hsz; have H4 := hid (H1.out.keep (below_new_store hg)); have Hb4 := hid (below_new_store hg); have S4 := hid hblk; clear hblk hg hsz; (try simp only [Act.put])))
  obtain ⟨gs, hgs⟩ : ∃ g, w1.heap.size = g := ⟨_, rfl⟩
  have Hgs := hid (show w1.heap.size ≤ gs by omega)
  have HFs := hid (show ¬ F gs ∧ ¬ FX gs by rw [← hgs]; exact H1.out.fresh _ (.inl (Nat.le_refl _)))
  rw [hgs] at S4 ⊢
  clear hgs
  have e5 := S4.out.cell 5
  have z5 := S4.out.frozen 5
  go_cut [] from 20 to 24 (fun wx => ∃ wi' : Int, 0 ≤ wi' ∧ wi' ≤ 65535 ∧ Below w1.heap.size w1 wx ∧ Blk wx gs 30 [.int .i64 f, .int .i64 t, .int .u32 (sq : Int), .int .u32 (ak : Int), .int .i64 fl, .int .i64 wi', .int .i64 ms, .slice A n cap])
  case first =>
    by_cases h0 : wi < 0
    · go_wp2_with fail
      go_meet
      case rel => exact ⟨0, by decide, by decide, below_own Hb4.out (grown_set _ _ _ _) Hgs.out Hb4.out.size, S4.out.set_ 5 _⟩
    by_cases h1 : wi > 65535
    · go_wp2_with fail
      go_meet
      case rel => exact ⟨65535, by decide, by decide, below_own Hb4.out (grown_set _ _ _ _) Hgs.out Hb4.out.size, S4.out.set_ 5 _⟩
    · go_wp2_with fail
      go_meet
      case rel => exact ⟨wi, by omega, by omega, below_own Hb4.out (grown_set _ _ _ _) Hgs.out Hb4.out.size, S4.out.set_ 5 _⟩
  case rest =>
  obtain ⟨wi', hw0, hw1, hb5, hB5⟩ := hcut
  have Hb5 := hid hb5
  have B5 := hid hB5
  have Hwi := hid (And.intro hw0 hw1)
  have H5 := hid (H1.out.keep hb5)
  have b2 := (BX.out.keep hb5).cell 2
  clear hb5 hB5 hw0 hw1 e5 z5 S4 Hb4 H4 BX b0
  go_step
  go_upto_if 26 with fail
  go_cut [] from 26 to 58 (fun wx => ∃ sq' ak' : Nat, sq' < 4294967296 ∧ ak' < 4294967296 ∧ Below w1.heap.size w1 wx ∧ Blk wx gs 30 [.int .i64 f, .int .i64 t, .int .u32 (sq' : Int), .int .u32 (ak' : Int), .int .i64 fl, .int .i64 wi', .int .i64 ms, .slice A n cap])
  case first =>
    cases near with
    | false =>
      go_wp2_with fail
      go_meet
      case rel => exact ⟨sq, ak, Hsq.out.1, Hsq.out.2, Hb5.out, B5.out⟩
    | true =>
      have e2 := B5.out.cell 2
      have z2 := B5.out.frozen 2
      have e3 := B5.out.cell 3
      have z3 := B5.out.frozen 3
      obtain ⟨r, hr⟩ : ∃ x, c.inn.r = x := ⟨_, rfl⟩
      obtain ⟨u, hu⟩ : ∃ x, c.out.u = x := ⟨_, rfl⟩
      obtain ⟨nx, hnx⟩ : ∃ x, c.out.n = x := ⟨_, rfl⟩
      have x3 := H5.out.ref.c3 hr
      have x4 := H5.out.ref.c4 hu
      have x5 := H5.out.ref.c5 hnx
      obtain ⟨d, hdd⟩ : ∃ d, mSub c.out.n c.out.u = d := ⟨_, rfl⟩
      have hd1 : d ≤ 65538 := by rw [← hdd]; exact H5.out.o.nu'
      have hdI : ((nx : Int) - (u : Int)) % 4294967296 = (d : Int) := by rw [← hdd, hnx, hu]; unfold mSub; have := H5.out.o.n; have := H5.out.o.u; omega
      obtain ⟨q1, hq1⟩ : ∃ x : Nat, (r + sq % 4000 + 4294967296 - 40) % 4294967296 = x := ⟨_, rfl⟩
      have hq1I : ((r : Int) + (sq : Int) % 4000 - 40) % 4294967296 = (q1 : Int) := by omega
      have hq1L : q1 < 4294967296 := by omega
      clear hr hdd
      go_upto_region 6 with fail
      go_region
      have H6 := hid ((H5.out.free (frame_one (grown_set wc gs 2 (.int .u32 (q1 : Int)))) (fun k hk e => by subst e; exact ⟨⟨Nat.le_trans H1.out.bel.size Hgs.out, Nat.le_trans H1.out.far.size Hgs.out⟩, HFs.out⟩)).drew)
      have B6 := hid ((B5.out.set_ 2 (.int .u32 (q1 : Int))).drew)
      have Hb6 := hid ((below_own Hb5.out (grown_set wc gs 2 (.int .u32 (q1 : Int))) Hgs.out Hb5.out.size).drew)
      clear e2 z2 e3 z3 x3 x4 x5
      generalize (wc.setCell ⟨gs, 2, none⟩ (.int .u32 (q1 : Int))).drew = w6 at *
      have e3 := B6.out.cell 3
      have z3 := B6.out.frozen 3
      have x4 := H6.out.ref.c4 hu
      have x5 := H6.out.ref.c5 hnx
      clear hu hnx
      have k1 : IntKind.i64.wrap ((d : Int) + 2) = (d : Int) + 2 := IntWalk.i64_in _ (by omega)
      have k2 : ((d : Int) + 2) % 4294967296 = (d : Int) + 2 := by omega
      have k3 : (1 : Int) < (d : Int) + 2 := by omega
      have k4 : ¬ (d : Int) + 2 < 1 := by omega
      have k5 : max (1 : Int) ((d : Int) + 2) = (d : Int) + 2 := by omega
      have k6 : ¬ ((d : Int) + 2 = 0) := by omega
      go_upto_region 7 with fail
      go_region
      go_wp2_with fail
      go_meet
      case rel =>
        refine ⟨q1, (u + ak % (d + 2)) % 4294967296, hq1L, Nat.mod_lt _ (by decide), (below_own Hb6.out (grown_set _ _ _ _) Hgs.out Hb6.out.size).drew, ?_⟩
        have hv : ((u : Int) + (ak : Int) % ((d : Int) + 2)) % 4294967296 = ((u + ak % (d + 2)) % 4294967296 : Nat) := near_ak u ak d
        rw [← hv]
        exact (B6.out.set_ 3 _).drew
  case rest =>
  obtain ⟨sq', ak', hsq, hak, hb6, hB6⟩ := hcut
  have Hb6 := hid hb6
  have B6 := hid hB6
  have Hsa := hid (And.intro hsq hak)
  have H6 := hid (H1.out.keep hb6)
  have D6 := hid (D1.out.below hb6)
  clear hb6 hB6 hsq hak b2 B5 Hb5 H5
  go_step
  have e7a : (wc.alloc (.cells #[] 5)).cell? ⟨gs, 7, none⟩ = some (.slice A n cap) := cell_below (below_alloc _ _) (B6.out.cell 7)
  go_upto_region 9 with ((with_reducible show wpList _ _ _ (Oper.mk (some 62) _ _ _ _ _ :: _) _ _); refine wpList_app8 _ rfl _ _ 28 rfl _ 5 u8ok (.slice (some ⟨_, 0, none⟩) 0 0) [] rfl (ownBs_litNil (by simp) (Nat.le_refl _)) _ data rfl (D6.out.alloc _) (by have := Hl.out; have := Hdl.out; simp; omega) (by simp) ?_; intro v7 w7 hown hb hg2 hat2; rw [List.nil_append] at hown; clear hg2 hat2 e7a; obtain ⟨A7, cap7, rfl⟩ := slice_len hown.bs Hdl.out; have Hb7 := hid ((below_alloc _ _).trans hb); have B7 := hid (B6.out.keep Hb7.out); have e7 := B7.out.cell 7; have z7 := B7.out.frozen 7; have O7 := hid hown; clear hown hb)
  have H8 := hid ((H6.out.keep Hb7.out).free (frame_one (grown_set w7 gs 7 (.slice A7 n cap7))) (fun k hk e => by subst e; exact ⟨⟨Nat.le_trans H1.out.bel.size Hgs.out, Nat.le_trans H1.out.far.size Hgs.out⟩, HFs.out⟩))
  have B8 := hid (B7.out.set_ 7 (.slice A7 n cap7))
  have O8 := hid (ownBs_store O7.out B7.out (by decide) (grown_set w7 gs 7 (.slice A7 n cap7)))
  have N8 := hid (show ∀ k, (Value.slice A7 n cap7).ownBlock = some k → (¬ F k ∧ ¬ FX k) ∧ k < (w7.setCell ⟨gs, 7, none⟩ (.slice A7 n cap7)).heap.size ∧ w0.heap.size ≤ k ∧ E.w.heap.size ≤ k from fun k hk => ⟨H6.out.fresh k (.inl ((RowAtS.of_own O7.out).lt hk).1), ((RowAtS.of_own O8.out).lt hk).2, Nat.le_trans H6.out.bel.size ((RowAtS.of_own O7.out).lt hk).1, Nat.le_trans H6.out.far.size ((RowAtS.of_own O7.out).lt hk).1⟩)
  have Hgz := hid (show gs < (w7.setCell ⟨gs, 7, none⟩ (.slice A7 n cap7)).heap.size from B8.out.lt)
  clear e7 z7 B6 B7 O7 H6 D6 Hb6 Hb7 D1 H1
  generalize w7.setCell ⟨gs, 7, none⟩ (.slice A7 n cap7) = w8 at *
  obtain ⟨c', hc'⟩ : ∃ x, tTake c ⟨f, t, sq', ak', fl, wi', ms, data⟩ = x := ⟨_, rfl⟩
  have Hc := hid hc'
  clear hc'
  go_upto_region 11 with (first
    | ((with_reducible show wpList _ _ _ (Oper.mk (some 65) _ _ _ _ _ :: _) _ _); refine wpList_loadBlk rfl _ _ rfl gs rfl _ _ _ B8.out Try.underlying30 seginfo ?_)
    | ((with_reducible show wpList _ _ _ (Oper.mk (some 68) _ _ _ _ _ :: _) _ _); refine wpList_loadBlk rfl _ _ rfl gs rfl _ _ _ B9.out Try.underlying30 seginfo ?_)
    | (go_at_call 16; refine (pl_take H8.out f t sq' ak' fl wi' ms data A7 n cap7 Hsa.out.1 Hsa.out.2 Hwi.out O8.out.bs Hdl.out (by have := Hl.out; omega) (by have := Hmq.out; omega) (.inr fun k hk => (N8.out k hk).1.1) _ Hc.out).mono ?_; rintro e w9 ⟨⟨u9, rfl⟩, F9, h9, fr9, n9⟩; have H9 := hid h9; have B9 := hid (fr9.blk B8.out HFs.out.1); have O9 := hid (fr9.own O8.out fun k hk => (N8.out k hk).1.1); have Fr9 := hid fr9.size; have N9 := hid n9; clear h9 fr9 n9)
    | (go_at_call 25; refine (theirs_any f t sq' ak' fl wi' ms A7 n cap7 _).mono ?_; rintro e w10 ⟨rfl, hb10⟩; have H10 := hid (H9.out.keep hb10); have B10 := hid (B9.out.keep hb10); have O10 := hid (own_below O9.out hb10); have Hb10 := hid hb10.size; clear hb10)
    | (go_at_call 47; refine (pl_rtake H10.out f t sq' ak' fl wi' ms data A7 n cap7 Hsa.out.1 Hsa.out.2 Hwi.out (OwnBs.bs O10.out) Hdl.out (by have := Hl.out; omega) (by have := Hmq.out; omega) (.inr fun k hk => (N8.out k hk).1.2) _ Hc.out).mono ?_; rintro e w11 ⟨⟨u11, rfl⟩, FX11, h11, fr11, n11⟩; have H11 := hid h11; have B11 := hid (fr11.blk B10.out HFs.out.2); have O11 := hid (fr11.own O10.out fun k hk => (N8.out k hk).1.2); have N11 := hid n11; clear h11 fr11 n11))
  obtain ⟨base, hbase⟩ : ∃ b, wc.heap.size = b := ⟨_, rfl⟩
  have HP := hid (show (∀ k, (Value.slice A7 n cap7).ownBlock = some k → (w0.heap.size ≤ k ∧ E.w.heap.size ≤ k) ∧ ¬ F9 k ∧ ¬ FX11 k) ∧ ¬ F9 gs ∧ ¬ FX11 gs from by
    have hz9 := Fr9.out
    have hz10 := Hb10.out
    have key : ∀ k, ¬ F k ∧ ¬ FX k → k < w8.heap.size → ¬ F9 k ∧ ¬ FX11 k := fun k h1 h2 => ⟨fun q => by
      rcases N9.out k q with e | e
      · exact h1.1 e
      · omega, fun q => by
      rcases N11.out k q with e | e
      · exact h1.2 e
      · omega⟩
    exact ⟨fun k hk => ⟨(N8.out k hk).2.2, key k (N8.out k hk).1 (N8.out k hk).2.1⟩, key gs HFs.out Hgz.out⟩)
  have hnb : n ≤ 4000 := Hl.out
  rw [hbase] at O11
  clear O8 O9 O10 B8 B9 B10 N8 N9 N11 Fr9 Hb10 H8 H9 H10 hbase Hgz
  go_wp2_with fail
  go_loopg [8] n (fun gk s8 wx => ∃ j : Nat, j ≤ n ∧ n - j ≤ gk ∧ s8 = .int .i64 (j : Int) ∧ PlSt E w0 wx gc gx c' c' (m + n) (q + n) F9 FX11 ∧ Blk wx gs 30 [.int .i64 f, .int .i64 t, .int .u32 (sq' : Int), .int .u32 (ak' : Int), .int .i64 fl, .int .i64 wi', .int .i64 ms, .slice A7 n cap7] ∧ ∃ bs : List UInt8, bs.length = n ∧ OwnBs wx base 5 (.slice A7 n cap7) bs)
  case atStart => exact ⟨0, Nat.zero_le _, by omega, rfl, H11.out, B11.out, data, Hdl.out, O11.out⟩
  case round =>
    obtain ⟨j, hj, hgk2, rfl, hS, hB, bs, hbl, hV⟩ := hrel
    have c7 : wr.cell? ⟨gs, 7, none⟩ = some (.slice A7 n cap7) := hB.cell 7
    have HS := hid hS
    have HB := hid hB
    have HV := hid hV
    by_cases hjl : j < n
    · have hjI : (j : Int) < (n : Int) := by omega
      have hj1 : IntKind.i64.wrap ((j : Int) + 1) = ((j + 1 : Nat) : Int) := by rw [IntWalk.i64_in _ (by omega)]; omega
      obtain ⟨gv, cv, hv, hv1, hv2, hv3⟩ := own_open hV (by omega)
      injection hv with e1 e2 e3
      subst e1
      obtain ⟨old, cv1⟩ : ∃ u, wr.cell? ⟨gv, j, none⟩ = some u := ⟨_, (own_cell hV j (by omega)).1⟩
      have fv1 : wr.frozen? ⟨gv, j, none⟩ = false := (own_cell hV j (by omega)).2
      have Hset := hid (own_set hV j 238 (.int .u8 238) rfl)
      have Hbl := hid hbl
      have Hne := hid (show gv ≠ gs from fun e => own_ne_blk HV.out HB.out (by decide) (by rw [e]; rfl))
      clear hS hB hV hbl e2 e3 hv1
      go_wp2_with fail
      go_roundg (n - (j + 1))
      case measure => omega
      case rel =>
        have hfr := frame_one Hset.out.2
        exact ⟨j + 1, by omega, Nat.le_refl _, rfl, HS.out.free hfr (fun k _ hk => by subst hk; exact HP.out.1 _ rfl), hfr.blk HB.out (fun e => Hne.out e.symm), _, by rw [List.length_set]; exact Hbl.out, Hset.out.1⟩
    · have hjI : ¬ (j : Int) < (n : Int) := by omega
      clear hS hB hV hbl
      go_wp2_with fail
      go_ret
      exact ⟨rfl, _, _, _, HS.out⟩
end
end
section
open Go Go.RowKit
set_option maxRecDepth 100000

section
variable {E : PlEnt} {w0 w : World} {gc gx : Nat} {c : TConn} {m q : Nat} {F FX : Nat → Prop}
theorem DonePost.more {k k' : Nat} {e : Ending} {w' : World} (h : DonePost E w0 gc gx m q k e w') (hk : k ≤ k') : DonePost E w0 gc gx m q k' e w' := by
  obtain ⟨h1, c', F', FX', h2⟩ := h
  exact ⟨h1, c', F', FX', h2.more (by omega) (by omega)⟩
theorem done_any (kind nn : Int) (near : Bool) (f t : Int) (sq ak : Nat) (fl wi ms : Int) (A : Option Addr) (n cap : Nat) (data : List UInt8) (hnn : -9223372036854775808 ≤ nn) (hsq : sq < 4294967296) (hak : ak < 4294967296) (hd : Bs w (.slice A n cap) data) (hl : n ≤ 4000) (hf : data.length = 0 ∨ ∀ k, (Value.slice A n cap).ownBlock = some k → ¬ F k ∧ ¬ FX k) (hm : m ≤ 900000) (hq : q ≤ 900000) (h : PlSt E w0 w gc gx c c m q F FX) :
    Calls Try.prog 26 #[.pointer (some ⟨gc, 0, none⟩), .pointer (some ⟨gx, 0, none⟩), .agg #[.int .i64 kind, .int .i64 nn, .bool near, .int .i64 f, .int .i64 t, .int .u32 (sq : Int), .int .u32 (ak : Int), .int .i64 fl, .int .i64 wi, .int .i64 ms, .slice A n cap]] w (DonePost E w0 gc gx m q 4000) := by
  by_cases h1 : kind = 1
  · exact (done_take kind h1 nn near f t sq ak fl wi ms A n cap data hsq hak hd hl hm hq h).mono fun e w' hp => hp.more hl
  by_cases h2 : kind = 2
  · exact (done_send kind h2 nn near f t sq ak fl wi ms A n cap data hd hl hf h).mono fun e w' hp => hp.more (Nat.zero_le _)
  by_cases h3 : kind = 3
  · exact (done_end kind h3 nn near f t sq ak fl wi ms A n cap h).mono fun e w' hp => hp.more (Nat.zero_le _)
  by_cases h4 : kind = 4
  · exact (done_tick kind h4 nn near f t sq ak fl wi ms A n cap hnn h).mono fun e w' hp => hp.more (Nat.zero_le _)
  by_cases h6 : kind = 6
  · exact (done_recv kind h6 nn near f t sq ak fl wi ms A n cap h).mono fun e w' hp => hp.more (Nat.zero_le _)
  · exact (done_out kind h1 h2 h3 h4 h6 nn near f t sq ak fl wi ms A n cap h).mono fun e w' hp => hp.more (Nat.zero_le _)
end
theorem RConn.base_ {w : World} {base base' g : Nat} {c : TConn} {q : Nat} {F : Nat → Prop} (h : RConn w base g c q F) (hb : base' ≤ base) : RConn w base' g c q F := by
  obtain ⟨a1, a2, a3, a4, a5, a6, a7, h1, h2⟩ := h
  exact ⟨a1, a2, a3, a4, a5, a6, a7, ⟨h1.tab, h1.inn.mono hb, h1.out.mono hb, h1.snt.mono hb, h1.ap, h1.fg, h1.fi, h1.fo, h1.fs, fun k hk => ⟨Nat.le_trans hb (h1.flt k hk).1, (h1.flt k hk).2⟩⟩, h2⟩
/-- both have begun -/
theorem pl_begin {w0 w1 w2 : World} {g gx : Nat} {s : TSeg} {first : Nat} {F : Nat → Prop} (hf : first < 4294967296) (hw : 0 ≤ s.window ∧ s.window ≤ 65535) (h : Conn w0 w1 g (tNew s first) 0 F) (hr : RConn w2 w1.heap.size gx (tNew s first) 0 (fun k => k = gx)) (hb : Below w1.heap.size w1 w2) :
    PlSt ⟨w2, F, fun k => k = gx⟩ w0 w2 g gx (tNew s first) (tNew s first) 0 0 F (fun k => k = gx) := by
  have hn := tNew_ok s first hf hw
  exact ⟨h.keep hb, hr.base_ h.bel.size, hn.2, hn.1, tNew_base s first, fun k hk e => by
    have h1 := (h.inv.lt k hk).2
    have h2 := (hr.bd k e).1
    omega, Far.refl _ _ _⟩
theorem PlSt.ent {E : PlEnt} {w0 w : World} {gc gx : Nat} {c x : TConn} {m q : Nat} {F FX : Nat → Prop} (h : PlSt E w0 w gc gx c x m q F FX) : PlSt ⟨w, F, FX⟩ w0 w gc gx c x m q F FX := ⟨h.conn, h.ref, h.i, h.o, h.b, h.apart, Far.refl _ _ _⟩
/-- bytes that stood before both were made are none of their own -/
theorem PlSt.farB {E : PlEnt} {w0 w wb : World} {gc gx : Nat} {c x : TConn} {m q : Nat} {F FX : Nat → Prop} (h : PlSt E w0 w gc gx c x m q F FX) {A : Option Addr} {n cap : Nat} {bs : List UInt8} (hb : Bs wb (.slice A n cap) bs) (hz : wb.heap.size ≤ w0.heap.size) : bs.length = 0 ∨ ∀ k, (Value.slice A n cap).ownBlock = some k → ¬ F k ∧ ¬ FX k := by
  obtain ⟨hl, _, _, h4⟩ := hb.open
  rcases h4 with h4 | ⟨b, off, rfl, hc⟩
  · exact .inl (by omega)
  · by_cases hn : n = 0
    · exact .inl (by omega)
    · right
      intro k hk
      have := World.block_lt_of_cell? wb _ (hc 0 (by omega))
      simp [Value.ownBlock] at hk
      subst hk
      exact h.fresh _ (.inr (by simp at this; omega))
/-- what both tell of themselves -/
theorem pl_tells {E : PlEnt} {w0 w : World} {gc gx : Nat} {c : TConn} {m q : Nat} {F FX : Nat → Prop} (h : PlSt E w0 w gc gx c c m q F FX) : ∃ (st : Int) (ub : Nat), w.cell? ⟨gx, 2, none⟩ = some (.int .i64 st)
    ∧ Calls Try.prog 18 #[.pointer (some ⟨gc, 0, none⟩)] w (fun e w' => e = .returned (.int .i64 st) ∧ w' = w)
    ∧ Calls Try.prog 27 #[.pointer (some ⟨gc, 0, none⟩)] w (fun e w' => e = .returned (.int .i64 (ub : Int)) ∧ w' = w)
    ∧ Calls Try.prog 28 #[.pointer (some ⟨gx, 0, none⟩)] w (fun e w' => e = .returned (.int .i64 (ub : Int)) ∧ w' = w) := by
  refine ⟨c.state, c.out.bytes.length, h.ref.c2 rfl, state_conn h.conn c.state rfl, unsent_any w0.heap.size gc c m F w h.conn.inv, ?_⟩
  obtain ⟨a1, a2, a3, a4, a5, a6, a7, k1, k2⟩ := h.ref
  obtain ⟨_, A, cap, rfl, _⟩ := k1.snt.rowN
  exact runsent_at gx A _ cap w (k1.tab.cell 10)
end
end Go.Proofs.Ytahlcjkcdgahkaa
