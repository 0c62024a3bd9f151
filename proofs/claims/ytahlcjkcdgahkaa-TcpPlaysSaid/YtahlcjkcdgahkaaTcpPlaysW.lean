/- The walk of TcpPlays. -/
import Derived.Test.YtahlcjkcdgahkaaTpF
import Derived.Deep.CutBlock
namespace Go.Proofs.Ytahlcjkcdgahkaa
open Go Go.RowKit
attribute [local go_sem ↓] Go.wp_at_zero Go.wp_at_succ
set_option maxRecDepth 100000
set_option linter.unusedSimpArgs false

theorem callinfo : (Try.prog.info? 54).map (·.size) = some 11 := by kernel_rfl
set_option maxHeartbeats 8000000 in
theorem tcpPlays_walk (f0 t0 : Int) (seq ack : Nat) (fl wi ms : Int) (data : List UInt8) (A : Option Addr) (n cap : Nat) (first : Nat) (vL : Value) (L : List TCall) (hsq : seq < 4294967296) (hf : first < 4294967296) (w : World) (hq : RowN w 11 vL L.length (tcRow L)) (hx : ∀ s ∈ L, TSegOk s.s ∧ Bs w s.v s.s.data ∧ -9223372036854775808 ≤ s.n) :
    Calls Try.prog 8 #[.agg #[.int .i64 f0, .int .i64 t0, .int .u32 (seq : Int), .int .u32 (ack : Int), .int .i64 fl, .int .i64 wi, .int .i64 ms, .slice A n cap], .int .u32 (first : Int), vL] w fun e w' => e = .returned (.bool true) ∧ Below w.heap.size w w' := by
  obtain ⟨_, Aq, capq, rfl, kq1, kq2, kq3⟩ := hq
  have HQ := hid (show RowN w 11 (.slice Aq L.length capq) L.length (tcRow L) from ⟨by assumption, Aq, capq, rfl, kq1, kq2, kq3⟩)
  have HX := hid hx
  obtain ⟨xn, hxn⟩ : ∃ n, L.length = n := ⟨_, rfl⟩
  rw [hxn] at HQ
  rw [hxn]
  have Hxn := hid hxn
  have Hsq := hid hsq
  have Hf := hid hf
  have BX := hid (Blk.new w 30 #[.int .i64 f0, .int .i64 t0, .int .u32 (seq : Int), .int .u32 (ack : Int), .int .i64 fl, .int .i64 wi, .int .i64 ms, .slice A n cap])
  have Hb1 := hid (below_alloc w (.cells #[.int .i64 f0, .int .i64 t0, .int .u32 (seq : Int), .int .u32 (ack : Int), .int .i64 fl, .int .i64 wi, .int .i64 ms, .slice A n cap] 30))
  clear hx kq1 kq2 kq3 hxn hsq hf
  go_enter Try.func8, Try.ntmps8
  go_upto_region 1 with fail
  obtain ⟨gs, hgs⟩ : ∃ g, w.heap.size = g := ⟨_, rfl⟩
  have Hgs := hid (show w.heap.size ≤ gs by omega)
  rw [hgs] at BX ⊢
  generalize w.alloc (.cells #[.int .i64 f0, .int .i64 t0, .int .u32 (seq : Int), .int .u32 (ack : Int), .int .i64 fl, .int .i64 wi, .int .i64 ms, .slice A n cap] 30) = w1 at *
  clear hgs
  go_upto_region 3 with (go_at_call 13; refine (known_any _).mono ?_; rintro e w2 ⟨rfl, hb⟩; have Hb2 := hid hb; clear hb)
  have Hb3 := hid (Hb1.out.trans (Hb2.out.mono Hb1.out.size))
  have B3 := hid (BX.out.keep Hb2.out)
  have e5 := B3.out.cell 5
  have z5 := B3.out.frozen 5
  clear BX Hb1 Hb2
  go_cut [] from 16 to 20 (fun wx => ∃ wi' : Int, 0 ≤ wi' ∧ wi' ≤ 65535 ∧ Below w.heap.size w wx ∧ Blk wx gs 30 [.int .i64 f0, .int .i64 t0, .int .u32 (seq : Int), .int .u32 (ack : Int), .int .i64 fl, .int .i64 wi', .int .i64 ms, .slice A n cap])
  case first =>
    by_cases h0 : wi < 0
    · go_wp2_with fail
      go_meet
      case rel => exact ⟨0, by decide, by decide, below_own Hb3.out (grown_set _ _ _ _) Hgs.out Hb3.out.size, B3.out.set_ 5 _⟩
    by_cases h1 : wi > 65535
    · go_wp2_with fail
      go_meet
      case rel => exact ⟨65535, by decide, by decide, below_own Hb3.out (grown_set _ _ _ _) Hgs.out Hb3.out.size, B3.out.set_ 5 _⟩
    · go_wp2_with fail
      go_meet
      case rel => exact ⟨wi, by omega, by omega, below_own Hb3.out (grown_set _ _ _ _) Hgs.out Hb3.out.size, B3.out.set_ 5 _⟩
  case rest =>
  obtain ⟨wi', hw0, hw1, hb5, hB5⟩ := hcut
  have Hb5 := hid hb5
  have B5 := hid hB5
  have Hwi := hid (And.intro hw0 hw1)
  clear hb5 hB5 hw0 hw1 e5 z5 B3 Hb3
  have e6 := B5.out.cell 6
  have z6 := B5.out.frozen 6
  go_step
  go_upto_region 4 with fail
  go_cut [] from 21 to 25 (fun wx => ∃ ms' : Int, Below w.heap.size w wx ∧ Blk wx gs 30 [.int .i64 f0, .int .i64 t0, .int .u32 (seq : Int), .int .u32 (ack : Int), .int .i64 fl, .int .i64 wi', .int .i64 ms', .slice A n cap])
  case first =>
    by_cases h0 : ms < 0
    · go_wp2_with fail
      go_meet
      case rel => exact ⟨0, below_own Hb5.out (grown_set _ _ _ _) Hgs.out Hb5.out.size, B5.out.set_ 6 _⟩
    by_cases h1 : ms > 65535
    · go_wp2_with fail
      go_meet
      case rel => exact ⟨65535, below_own Hb5.out (grown_set _ _ _ _) Hgs.out Hb5.out.size, B5.out.set_ 6 _⟩
    · go_wp2_with fail
      go_meet
      case rel => exact ⟨ms, below_own Hb5.out (grown_set _ _ _ _) Hgs.out Hb5.out.size, B5.out.set_ 6 _⟩
  case rest =>
  obtain ⟨ms', hb6, hB6⟩ := hcut
  have Hb6 := hid hb6
  have B6 := hid hB6
  clear hb6 hB6 e6 z6 B5 Hb5
  generalize wc = w6 at *
  go_step
  by_cases hbg : tBegins fl
  case neg =>
    have HN := hid (fun wy => show Calls Try.prog 22 #[.agg #[.int .i64 f0, .int .i64 t0, .int .u32 (seq : Int), .int .u32 (ack : Int), .int .i64 fl, .int .i64 wi', .int .i64 ms', .slice A n cap], .int .u32 (first : Int)] wy _ from new_bad (⟨f0, t0, seq, ack, fl, wi', ms', data⟩ : TSeg) A n cap first wy hbg)
    have HNx := hid (fun wy => show Calls Try.prog 24 #[.agg #[.int .i64 f0, .int .i64 t0, .int .u32 (seq : Int), .int .u32 (ack : Int), .int .i64 fl, .int .i64 wi', .int .i64 ms', .slice A n cap], .int .u32 (first : Int)] wy _ from rnew_bad (⟨f0, t0, seq, ack, fl, wi', ms', data⟩ : TSeg) A n cap first wy hbg)
    have HTh := hid (fun wy => theirs_any f0 t0 seq ack fl wi' ms' A n cap wy)
    clear hbg
    go_wp2_with (first
      | ((with_reducible show wpList _ _ _ (Oper.mk (some 27) _ _ _ _ _ :: _) _ _); refine wpList_loadBlk rfl _ _ rfl gs rfl _ _ _ B6.out Try.underlying30 seginfo ?_)
      | ((with_reducible show wpList _ _ _ (Oper.mk (some 33) _ _ _ _ _ :: _) _ _); refine wpList_loadBlk rfl _ _ rfl gs rfl _ _ _ (B6.out.keep Hb7.out) Try.underlying30 seginfo ?_)
      | (go_at_call 22; refine (HN.out _).mono ?_; rintro e w7 ⟨rfl, hb⟩; have Hb7 := hid hb; clear hb)
      | (go_at_call 25; refine (HTh.out _).mono ?_; rintro e w8 ⟨rfl, hb⟩; have Hb8 := hid hb; clear hb)
      | (go_at_call 24; refine (HNx.out _).mono ?_; rintro e w9 ⟨rfl, hb⟩; have Hb9 := hid hb; clear hb))
    go_ret
    exact ⟨rfl, Hb6.out.trans ((Hb7.out.trans ((Hb8.out.trans (Hb9.out.mono Hb8.out.size)).mono Hb7.out.size)).mono Hb6.out.size)⟩
  case pos =>
  have HN := hid (fun wy => show Calls Try.prog 22 #[.agg #[.int .i64 f0, .int .i64 t0, .int .u32 (seq : Int), .int .u32 (ack : Int), .int .i64 fl, .int .i64 wi', .int .i64 ms', .slice A n cap], .int .u32 (first : Int)] wy _ from new_conn (⟨f0, t0, seq, ack, fl, wi', ms', data⟩ : TSeg) A n cap first wy hbg Hsq.out Hf.out Hwi.out)
  have HNx := hid (fun wy => show Calls Try.prog 24 #[.agg #[.int .i64 f0, .int .i64 t0, .int .u32 (seq : Int), .int .u32 (ack : Int), .int .i64 fl, .int .i64 wi', .int .i64 ms', .slice A n cap], .int .u32 (first : Int)] wy _ from rnew_any (⟨f0, t0, seq, ack, fl, wi', ms', data⟩ : TSeg) A n cap first wy hbg)
  have HTh := hid (fun wy => theirs_any f0 t0 seq ack fl wi' ms' A n cap wy)
  clear hbg
  go_upto_region 9 with (first
    | ((with_reducible show wpList _ _ _ (Oper.mk (some 27) _ _ _ _ _ :: _) _ _); refine wpList_loadBlk rfl _ _ rfl gs rfl _ _ _ B6.out Try.underlying30 seginfo ?_)
    | ((with_reducible show wpList _ _ _ (Oper.mk (some 33) _ _ _ _ _ :: _) _ _); refine wpList_loadBlk rfl _ _ rfl gs rfl _ _ _ B7.out Try.underlying30 seginfo ?_)
    | (go_at_call 22; refine (HN.out _).mono ?_; rintro e w7 ⟨gc, F, rfl, hc⟩; have H7 := hid hc; have B7 := hid (hc.bel.size |> fun _ => B6.out.keep hc.bel); clear hc)
    | (go_at_call 25; refine (HTh.out _).mono ?_; rintro e w8 ⟨rfl, hb⟩; have H8 := hid (H7.out.keep hb); clear hb)
    | (go_at_call 24; refine (HNx.out _).mono ?_; rintro e w9 ⟨gx, rfl, hr, hb⟩; have H9 := hid (pl_begin (s := (⟨f0, t0, seq, ack, fl, wi', ms', data⟩ : TSeg)) Hf.out Hwi.out H8.out hr hb); clear hr hb))
  clear HN HNx HTh H7 H8 B6 B7
  obtain ⟨c0, hc0⟩ : ∃ c0, tNew (⟨f0, t0, seq, ack, fl, wi', ms', data⟩ : TSeg) first = c0 := ⟨_, rfl⟩
  rw [hc0] at H9
  clear hc0
  go_upto_block 0 with fail
  go_cut [11] from 51 to 92 (fun _ wx => ∃ c F2 FX2, PlSt ⟨w9, F, fun k => k = gx⟩ w6 wx gc gx c c 320000 320000 F2 FX2)
  case first =>
    go_wp2_with fail
    go_loopg [11] 80 (fun gk s11 wr => ∃ (i : Nat) (c : TConn) (F2 FX2 : Nat → Prop), i ≤ 80 ∧ gk = 80 - i ∧ s11 = .int .i64 (i : Int) ∧ PlSt ⟨w9, F, fun k => k = gx⟩ w6 wr gc gx c c (i * 4000) (i * 4000) F2 FX2)
    case atStart => exact ⟨0, c0, F, _, by omega, rfl, rfl, H9.out⟩
    case round =>
      obtain ⟨i, c, F2, FX2, hi80, rfl, rfl, hP⟩ := hrel
      have HP := hid hP
      clear hP
      by_cases hkl : i < xn ∧ i < 80
      case neg =>
        have t1 : (i : Int) < (xn : Int) ∧ ¬ (i : Int) < 80 ∨ ¬ (i : Int) < (xn : Int) := by omega
        rcases t1 with ⟨t1, t2⟩ | t1
        all_goals
          go_wp2_with fail
          go_meet
          case rel => exact ⟨c, F2, FX2, HP.out.more (by omega) (by omega)⟩
      case pos =>
        obtain ⟨hkl1, hkl2⟩ := hkl
        have t1 : (i : Int) < (xn : Int) := by omega
        have t2 : (i : Int) < 80 := by omega
        have Hmi := hid (show 80 - (i + 1) < 80 - i ∧ i + 1 ≤ 80 by omega)
        have Hmq := hid (show i * 4000 ≤ 900000 ∧ i * 4000 + 4000 = (i + 1) * 4000 by omega)
        have hi1 : wrap64 ((i : Int) + 1) = ((i + 1 : Nat) : Int) := by unfold wrap64; omega
        have Hi1 := hid hi1
        have Hbw := hid (Hb6.out.trans (HP.out.bel.mono Hb6.out.size))
        have hkx : i < L.length := by rw [Hxn.out]; exact hkl1
        have hq' := HQ.out
        rw [← Hxn.out] at hq'
        obtain ⟨gb, off, rfl, hcell⟩ := call_cells hq' i hkx
        clear hq' hi1
        obtain ⟨hsok, hsb, hnn⟩ := HX.out L[i] (List.getElem_mem hkx)
        generalize L[i] = cl at hcell hsok hsb hnn
        obtain ⟨kind, nn, near, ⟨cf, ct, csq, cak, cfl, cwi, cms, dat⟩, v⟩ := cl
        obtain ⟨nd, hnd⟩ : ∃ n, dat.length = n := ⟨_, rfl⟩
        obtain ⟨Ad, cpd, rfl⟩ := slice_len hsb hnd
        have Hnd := hid hnd
        have Hsok := hid hsok
        have Hnn := hid hnn
        have Hsb := hid (show Bs wr (.slice Ad nd cpd) dat from hsb.below Hbw.out)
        have Hfar := hid (HP.out.farB hsb Hb6.out.size)
        have Hrange := hid (show ∀ wy, Below wr.heap.size wr wy → wy.rangeAt gb (off + i * 11) [.int .i64 kind, .int .i64 nn, .bool near, .int .i64 cf, .int .i64 ct, .int .u32 (csq : Int), .int .u32 (cak : Int), .int .i64 cfl, .int .i64 cwi, .int .i64 cms, .slice Ad nd cpd] from fun wy hb j y hy => by
          have hj : j < 11 := by have := (List.getElem?_eq_some_iff.1 hy).1; exact this
          rw [Nat.add_assoc]
          exact cell_below (Hbw.out.trans (hb.mono Hbw.out.size)) (hcell j y hj hy))
        have c10 : wr.cell? ⟨gb, off + i * 11 + 10, none⟩ = some (.slice Ad nd cpd) := Hrange.out wr (Below.refl _ _) 10 _ rfl
        clear hcell hsok hsb hnn hnd hkx
        by_cases hbig : nd > 4000
        · have hbI : (nd : Int) > 4000 := by omega
          go_wp2_with fail
          go_roundg (80 - (i + 1))
          case measure => exact Hmi.out.1
          case rel => exact ⟨i + 1, c, F2, FX2, Hmi.out.2, rfl, (by go_num), HP.out.more (by have := Hmq.out; omega) (by have := Hmq.out; omega)⟩
        have hbI : ¬ (nd : Int) > 4000 := by omega
        have HD := hid (fun wy (y : Below wr.heap.size wr wy) => done_any kind nn near cf ct csq cak cfl cwi cms Ad nd cpd dat Hnn.out Hsok.out.seq Hsok.out.ack (Hsb.out.below y) (by omega) Hfar.out Hmq.out.1 Hmq.out.1 (HP.out.keep y))
        have b0 := Hrange.out _ (below_drew wr) 0 _ rfl
        rw [Nat.add_zero] at b0
        have b1 := Hrange.out _ (below_drew wr) 1 _ rfl
        have b2 := Hrange.out _ (below_drew wr) 2 _ rfl
        have b3 := Hrange.out _ (below_drew wr) 3 _ rfl
        have b4 := Hrange.out _ (below_drew wr) 4 _ rfl
        have b5 := Hrange.out _ (below_drew wr) 5 _ rfl
        have b6 := Hrange.out _ (below_drew wr) 6 _ rfl
        have b7 := Hrange.out _ (below_drew wr) 7 _ rfl
        have b8 := Hrange.out _ (below_drew wr) 8 _ rfl
        have b9 := Hrange.out _ (below_drew wr) 9 _ rfl
        have b10 := Hrange.out _ (below_drew wr) 10 _ rfl
        go_upto_region 15 with fail
        go_region_law (first
          | (go_simp; go_at_call 26; refine (HD.out _ (below_drew wr)).mono ?_; rintro e w2 ⟨rfl, c', F3, FX3, hp2⟩; have HP2 := hid hp2; obtain ⟨st, ub, x2, hst, hun, hux⟩ := pl_tells hp2; have HSt := hid hst; have HUn := hid hun; have HUx := hid hux; clear hp2 hst hun hux)
          | (go_simp; go_at_call 18; refine HSt.out.mono ?_; rintro e w' ⟨rfl, rfl⟩)
          | (go_simp; go_at_call 27; refine HUn.out.mono ?_; rintro e w' ⟨rfl, rfl⟩)
          | (go_simp; go_at_call 28; refine HUx.out.mono ?_; rintro e w' ⟨rfl, rfl⟩)
          | fail)
        all_goals
          go_wp2_with fail
          go_roundg (80 - (i + 1))
          case measure => exact Hmi.out.1
          case rel => exact ⟨i + 1, c', F3, FX3, Hmi.out.2, rfl, (by go_num), HP2.out.more (by have := Hmq.out; omega) (by have := Hmq.out; omega)⟩
  case rest =>
  obtain ⟨c, F2, FX2, hP⟩ := hcut
  have HP := hid hP
  clear hP H9 HX HQ
  generalize wc = wt at *
  go_step
  go_upto_region 18 with ((with_reducible show wpList _ _ _ (Oper.mk none _ _ _ _ _ :: _) _ _); refine wpList_storeBlk rfl _ _ _ rfl _ _ rfl rfl _ _ (Blk.new _ _ _) callinfo rfl rfl ?_; intro w12 hblk hg hsz; have P12 := hid (HP.out.keep (below_new_store hg)); have O12 := hid hblk; have N12 := hid (HP.out.fresh wt.heap.size (.inl (Nat.le_refl _))); clear hblk hg hsz; (try simp only [Act.put]))
  obtain ⟨g12, hg12⟩ : ∃ g, wt.heap.size = g := ⟨_, rfl⟩
  rw [hg12] at O12 N12 ⊢
  clear hg12
  go_upto_region 19 with ((with_reducible show wpList _ _ _ (Oper.mk none _ _ _ _ _ :: _) _ _); refine wpList_storeBlk rfl _ _ _ rfl _ _ rfl rfl _ _ (Blk.new _ _ _) callinfo rfl rfl ?_; intro w13 hblk hg hsz; have P13 := hid (P12.out.keep (below_new_store hg)); have O13 := hid hblk; have Q12 := hid (O12.out.keep (below_new_store hg)); have N13 := hid (P12.out.fresh w12.heap.size (.inl (Nat.le_refl _))); clear hblk hg hsz; (try simp only [Act.put]))
  obtain ⟨g13, hg13⟩ : ∃ g, w12.heap.size = g := ⟨_, rfl⟩
  rw [hg13] at O13 N13 ⊢
  clear hg13 P12 O12
  have PA := hid (P13.out.drew.ent)
  have BA := hid (Q12.out.drew)
  have BB := hid (O13.out.drew)
  have HD5 := hid (fun wy c m q F FX (hp : PlSt ⟨w13.drew, F2, FX2⟩ w6 wy gc gx c c m q F FX) (hm : m ≤ 900000) (hq : q ≤ 900000) => show Calls Try.prog 26 #[.pointer (some ⟨gc, 0, none⟩), .pointer (some ⟨gx, 0, none⟩), .agg #[.int .i64 5, .int .i64 0, .bool false, .int .i64 0, .int .i64 0, .int .u32 0, .int .u32 0, .int .i64 0, .int .i64 0, .int .i64 0, .slice none 0 0]] wy _ from done_any 5 0 false 0 0 0 0 0 0 0 none 0 0 [] (by decide) (by decide) (by decide) (Bs.nil _) (by decide) (.inl rfl) hm hq hp)
  have HD6 := hid (fun wy c m q F FX (hp : PlSt ⟨w13.drew, F2, FX2⟩ w6 wy gc gx c c m q F FX) (hm : m ≤ 900000) (hq : q ≤ 900000) => show Calls Try.prog 26 #[.pointer (some ⟨gc, 0, none⟩), .pointer (some ⟨gx, 0, none⟩), .agg #[.int .i64 6, .int .i64 0, .bool false, .int .i64 0, .int .i64 0, .int .u32 0, .int .u32 0, .int .i64 0, .int .i64 0, .int .i64 0, .slice none 0 0]] wy _ from done_any 6 0 false 0 0 0 0 0 0 0 none 0 0 [] (by decide) (by decide) (by decide) (Bs.nil _) (by decide) (.inl rfl) hm hq hp)
  clear HP P13 Q12 O13
  have a0 := BA.out.cell 0; have a1 := BA.out.cell 1; have a2 := BA.out.cell 2; have a3 := BA.out.cell 3; have a4 := BA.out.cell 4; have a5 := BA.out.cell 5; have a6 := BA.out.cell 6; have a7 := BA.out.cell 7; have a8 := BA.out.cell 8; have a9 := BA.out.cell 9; have a10 := BA.out.cell 10
  go_region_law (first
    | (go_simp; go_at_call 26; refine (HD5.out _ _ _ _ _ _ PC.out (by decide) (by decide)).mono ?_; rintro e w16 ⟨rfl, c3, F5, FX5, hp⟩; have PD := hid hp; obtain ⟨st, ub, x2, hst, _, _⟩ := pl_tells hp; have HSt := hid hst; clear hp hst)
    | (go_simp; go_at_call 26; refine (HD6.out _ _ _ _ _ _ PB.out (by decide) (by decide)).mono ?_; rintro e w15 ⟨rfl, c2, F4, FX4, hp⟩; have PC := hid hp; have hB := hp.far.blk BA.out N12.out.1 N12.out.2; have a0 := hB.cell 0; have a1 := hB.cell 1; have a2 := hB.cell 2; have a3 := hB.cell 3; have a4 := hB.cell 4; have a5 := hB.cell 5; have a6 := hB.cell 6; have a7 := hB.cell 7; have a8 := hB.cell 8; have a9 := hB.cell 9; have a10 := hB.cell 10; clear hp hB)
    | (go_simp; go_at_call 26; refine (HD5.out _ _ _ _ _ _ PA.out (by decide) (by decide)).mono ?_; rintro e w14 ⟨rfl, c1, F3, FX3, hp⟩; have PB := hid hp; have hB := hp.far.blk BB.out N13.out.1 N13.out.2; have d0 := hB.cell 0; have d1 := hB.cell 1; have d2 := hB.cell 2; have d3 := hB.cell 3; have d4 := hB.cell 4; have d5 := hB.cell 5; have d6 := hB.cell 6; have d7 := hB.cell 7; have d8 := hB.cell 8; have d9 := hB.cell 9; have d10 := hB.cell 10; clear hp hB)
    | (go_simp; go_at_call 18; refine HSt.out.mono ?_; rintro e w' ⟨rfl, rfl⟩)
    | fail)
  all_goals
    go_wp2_with fail
    go_ret
    exact ⟨rfl, Hb6.out.trans (PD.out.bel.mono Hb6.out.size)⟩
end Go.Proofs.Ytahlcjkcdgahkaa
