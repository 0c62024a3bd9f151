/- The walk of TcpWindow. -/
import Derived.Test.YtahlcjkcdgahkaaTcpX
namespace Go.Proofs.Ytahlcjkcdgahkaa
open Go Go.RowKit
attribute [local go_sem ↓] Go.wp_at_zero Go.wp_at_succ
set_option maxRecDepth 100000

/-- after so many bytes: got of them are taken -/
structure WinAt (w0 wr : World) (g s1 got m : Nat) (c : TConn) (F : Nat → Prop) : Prop where
  conn : Conn w0 wr g c m F
  idle : Idle c
  acks : c.acks = false
  flat : Flat c.inn s1 got
  ready : c.inn.ready.length = got
  n : c.out.n = 10
  got : got ≤ 16384
theorem WinAt.keep {w0 wr w' : World} {g s1 got m : Nat} {c : TConn} {F : Nat → Prop} (h : WinAt w0 wr g s1 got m c F) (hb : Below wr.heap.size wr w') : WinAt w0 w' g s1 got m c F := ⟨h.conn.keep hb, h.idle, h.acks, h.flat, h.ready, h.n, h.got⟩
/-- what a piece makes of it -/
theorem win_take {c : TConn} {s1 got : Nat} (hi : Idle c) (hf : Flat c.inn s1 got) (hr : c.inn.ready.length = got) (hn : c.out.n = 10) (ha : c.acks = false) (hg : got ≤ 16384) (sq : Nat) (data : List UInt8) (hs : sq = (s1 + got) % 4294967296) (hl : data.length ≤ 100000) (h0 : 0 < data.length) :
    Idle (tTake c ⟨0, 0, sq, 10, 16, 4000, 0, data⟩) ∧ (tTake c ⟨0, 0, sq, 10, 16, 4000, 0, data⟩).acks = true ∧ Flat (tTake c ⟨0, 0, sq, 10, 16, 4000, 0, data⟩).inn s1 (min 16384 (got + data.length)) ∧ (tTake c ⟨0, 0, sq, 10, 16, 4000, 0, data⟩).inn.ready.length = min 16384 (got + data.length) ∧ (tTake c ⟨0, 0, sq, 10, 16, 4000, 0, data⟩).out.n = 10 := by
  have hq : c.inn.q = 16384 - got := by unfold TIn.q; rw [hr]
  obtain ⟨h1, h2⟩ := take_flat hf ⟨0, 0, sq, 10, 16, 4000, 0, data⟩ hs (show tBit 16 1 = false by decide) (by show got + data.length ≤ _; omega)
  have hk := take_ack_idle hi ⟨0, 0, sq, 10, 16, 4000, 0, data⟩ rfl hn.symm h1.done
  have e : got + min data.length c.inn.q = min 16384 (got + data.length) := by omega
  simp only at h1 h2
  refine ⟨hk.1, ?_, ?_, ?_, by rw [hk.2.2.2.2.2, hn]⟩
  · rw [hk.2.2.1, ha]
    simp [h0]
  · rw [hk.2.1, ← e]; exact h1
  · rw [hk.2.1, h2, List.length_append, List.length_take, hr]; omega
theorem win_far {c : TConn} {s1 got : Nat} (hi : Idle c) (hf : Flat c.inn s1 got) (hr : c.inn.ready.length = got) (hn : c.out.n = 10) (ha : c.acks = false) (hg : got ≤ 16384) (sq p : Nat) (data : List UInt8) (hs : sq = (s1 + p) % 4294967296) (hp : 16384 ≤ p) (hp2 : p ≤ 100000) (hl : data.length ≤ 100000) (h0 : 0 < data.length) :
    Idle (tTake c ⟨0, 0, sq, 10, 16, 4000, 0, data⟩) ∧ (tTake c ⟨0, 0, sq, 10, 16, 4000, 0, data⟩).acks = true ∧ Flat (tTake c ⟨0, 0, sq, 10, 16, 4000, 0, data⟩).inn s1 got ∧ (tTake c ⟨0, 0, sq, 10, 16, 4000, 0, data⟩).inn.ready.length = got ∧ (tTake c ⟨0, 0, sq, 10, 16, 4000, 0, data⟩).out.n = 10 := by
  have hq : c.inn.q = 16384 - got := by unfold TIn.q; rw [hr]
  obtain ⟨h1, h2⟩ := take_far hf ⟨0, 0, sq, 10, 16, 4000, 0, data⟩ p hs (show tBit 16 1 = false by decide) (by omega) (by show p + data.length ≤ _; omega)
  have hk := take_ack_idle hi ⟨0, 0, sq, 10, 16, 4000, 0, data⟩ rfl hn.symm h1.done
  refine ⟨hk.1, ?_, ?_, ?_, by rw [hk.2.2.2.2.2, hn]⟩
  · rw [hk.2.2.1, ha]
    simp [h0]
  · rw [hk.2.1]; exact h1
  · rw [hk.2.1, h2, hr]
theorem zeros_bs (w : World) (n : Nat) (hn : n ≤ 65536) : Bs (w.alloc (.cells (zero8 n) 5)) (.slice (some ⟨w.heap.size, 0, none⟩) n n) (List.replicate n 0) := bs_litm (zero8 n) (List.replicate n 0) n _ (by simp [zero8]) (by simp) hn rfl
set_option maxHeartbeats 8000000 in
theorem tcpWindow_walk (seq : Nat) (ni : Int) (recv : Bool) (bi : Int) (hs : seq < 4294967296) (w : World) :
    Calls Try.prog 3 #[.int .u32 (seq : Int), .int .i64 ni, .bool recv, .int .i64 bi] w fun e w' => e = .returned (.bool true) ∧ Below w.heap.size w w' := by
  obtain ⟨s1, hs1⟩ : ∃ x, (seq + 1) % 4294967296 = x := ⟨_, rfl⟩
  have hs1I : ((seq : Int) + 1) % 4294967296 = (s1 : Int) := by omega
  have hs1L : s1 < 4294967296 := by omega
  have Hs1 := hid hs1
  have HO := hid (opened_any seq 9 4000 hs (by decide) ⟨by decide, by decide⟩)
  have HWi := hid (fun wx => within_at ni 17000 17000 wx rfl (by decide) (by decide))
  have HWb := hid (fun wx => within_at bi 100 100 wx rfl (by decide) (by decide))
  clear hs1
  go_enter Try.func3, Try.ntmps3
  go_upto_region 9 with (first
    | (go_at_call 13; refine (known_any _).mono ?_; rintro e w1 ⟨rfl, hb⟩; have Hb1 := hid hb; clear hb)
    | (go_at_call 14; refine (HO.out w1).mono ?_; rintro e w2 ⟨g, F, rfl, hc⟩; have H2 := hid hc; clear hc)
    | (go_at_call 15; refine (HWi.out _).mono ?_; rintro e w' ⟨n, hn, rfl, rfl⟩))
  have W0 : WinAt w1 w2 g s1 0 0 (tOpen seq 9 4000) F := ⟨H2.out, idle_open _ _ _, rfl, by rw [← Hs1.out]; exact flat_open _ _ _, rfl, rfl, by decide⟩
  have W0 := hid W0
  clear H2 HO HWi
  go_loopg [10, 11] (n + 1000) (fun gk s10 s11 wr => ∃ a got m c F, a % 1000 = 0 ∧ a < n + 1000 ∧ gk = n + 1000 - a ∧ s11 = .int .i64 (a : Int) ∧ got = min 16384 (min a n) ∧ s10 = .int .i64 (got : Int) ∧ m ≤ a ∧ WinAt w1 wr g s1 got m c F)
  case atStart => exact ⟨0, 0, 0, _, _, rfl, by omega, rfl, rfl, by omega, rfl, by omega, W0.out⟩
  case round =>
    obtain ⟨a, got, m, c, F', hmod, ha, rfl, rfl, hgot, rfl, hm, hW⟩ := hrel
    have Hmod := hid hmod
    clear hmod
    have HW := hid hW
    have Hgot := hid hgot
    have hg16 : got ≤ 16384 := by omega
    clear hW hgot W0
    by_cases hlt : a < n
    · have t1 : (a : Int) < (n : Int) := by omega
      obtain ⟨kk, hkk⟩ : ∃ kk, min 1000 (n - a) = kk := ⟨_, rfl⟩
      have Hkk := hid hkk
      have hkk0 : 0 < kk ∧ kk ≤ 1000 := by omega
      have Hlt := hid hlt
      obtain ⟨d, hd⟩ : ∃ d, n - a = d := ⟨_, rfl⟩
      have hdI : (n : Int) - (a : Int) = (d : Int) := by omega
      have hdk : min 1000 d = kk := by rw [← hd]; exact hkk
      have Hdk := hid hdk
      clear hkk hlt hd hdk
      go_upto_region 11 with fail
      go_cut [12] from 30 to 33 (fun s wx => s = .int .i64 (kk : Int) ∧ wx = wr)
      case first =>
        have hdk := Hdk.out
        by_cases h1 : d < 1000
        · obtain rfl : d = kk := by omega
          clear hdk
          go_wp2_with fail
          go_meet
          case rel => exact ⟨rfl, rfl⟩
        · obtain rfl : kk = 1000 := by omega
          clear hdk
          go_wp2_with fail
          go_meet
          case rel => exact ⟨rfl, rfl⟩
      case rest =>
      obtain ⟨h12, hww⟩ := hcut
      subst u12
      have hww := hww.symm
      subst hww
      go_step
      obtain ⟨sa, hsa⟩ : ∃ x, (s1 + a) % 4294967296 = x := ⟨_, rfl⟩
      have hsaI : ((s1 : Int) + (a : Int)) % 4294967296 = (sa : Int) := by omega
      have hsaL : sa < 4294967296 := by omega
      obtain ⟨got', hgot'⟩ : ∃ x, min 16384 (got + kk) = x := ⟨_, rfl⟩
      have hga : got = a := by have := Hgot.out; have := Hlt.out; have := Hmod.out; omega
      have hWt := win_take HW.out.idle HW.out.flat HW.out.ready HW.out.n HW.out.acks hg16 sa (List.replicate kk 0) (by rw [← hsa, hga]) (by simp; omega) (by simp; omega)
      rw [List.length_replicate, hgot'] at hWt
      obtain ⟨c1, hc1⟩ : ∃ c1, tTake c ⟨0, 0, sa, 10, 16, 4000, 0, List.replicate kk 0⟩ = c1 := ⟨_, rfl⟩
      rw [hc1] at hWt
      have HWt := hid hWt
      have HT := hid (take_at (HW.out.conn.keep (below_alloc wr (.cells (zero8 kk) 5))) 0 0 sa 10 16 4000 0 (List.replicate kk 0) (some ⟨wr.heap.size, 0, none⟩) kk kk hsaL (by decide) (by decide) (by decide) (zeros_bs wr kk (by omega)) (by simp) (by omega) (by omega) (.inr fun k hk hF => by simp [Value.ownBlock] at hk; subst hk; exact Nat.lt_irrefl _ (HW.out.conn.inv.lt _ hF).2) c1 hc1)
      have hmk := run_make8 u8ok .i64 .i64 (kk : Int) kk rfl (by omega)
      have Hgot' := hid hgot'
      have Hga := hid hga
      clear hWt hc1 hsa hgot' hga
      go_upto_region 13 with (go_at_call 16; refine HT.out.mono ?_; rintro e w3 ⟨⟨u, rfl⟩, F3, hc, _, _⟩; have H3 := hid hc; clear hc)
      clear hmk
      go_cut [10] from 44 to 47 (fun s wx => s = .int .i64 (got' : Int) ∧ wx = w3)
      case first =>
        have hg' := Hgot'.out
        by_cases h1 : got + kk < 16384
        · obtain rfl : got' = got + kk := by omega
          clear hg'
          have h2 : ((got : Int) + (kk : Int)) < 16384 := by omega
          go_wp2_with fail
          go_meet
          case rel => exact ⟨by go_num, rfl⟩
        · obtain rfl : got' = 16384 := by omega
          clear hg'
          have h2 : ¬ ((got : Int) + (kk : Int)) < 16384 := by omega
          go_wp2_with fail
          go_meet
          case rel => exact ⟨rfl, rfl⟩
      case rest =>
      obtain ⟨h10, hww⟩ := hcut
      subst u10
      subst hww
      go_step
      have HOut := hid (out_conn H3.out _ (by rw [out_idle HWt.out.1, if_pos HWt.out.2.1]))
      go_upto_region 15 with (go_at_call 17; refine HOut.out.mono ?_; rintro e w4 ⟨v4, rfl, ho, hc⟩; rw [out_idle HWt.out.1] at hc; have H4 := hid hc; have Ho4 := hid ho; clear ho hc)
      obtain ⟨b, cap, vs, rfl, _, hcell⟩ := Ho4.out.one_at
      obtain ⟨sg, hsg⟩ : ∃ x, (s1 + got') % 4294967296 = x := ⟨_, rfl⟩
      have hsgI : ((s1 : Int) + (got' : Int)) % 4294967296 = (sg : Int) := by omega
      have p3 : w4.cell? ⟨b, 3, none⟩ = some (.int .u32 (sg : Int)) := by rw [hcell 3 (by decide), ← hsg, ← HWt.out.2.2.1.r]; rfl
      have p5 : w4.cell? ⟨b, 5, none⟩ = some (.int .i64 (16384 - (got' : Int))) := by rw [hcell 5 (by decide), ← HWt.out.2.2.2.1]; rfl
      have hg2 : got' ≤ 16384 := by have := Hgot'.out; omega
      clear hcell hsg HOut
      go_wp2_with fail
      go_roundg (n - a)
      case measure => omega
      case rel =>
        have hga := Hga.out
        have hg' := Hgot'.out
        have hk := Hkk.out
        have hl := Hlt.out
        have hmo := Hmod.out
        exact ⟨a + 1000, got', m + kk, _, _, by omega, by omega, by omega, by go_num, by omega, rfl, by omega, ⟨H4.out, idle_acks HWt.out.1 false, rfl, HWt.out.2.2.1, HWt.out.2.2.2.1, HWt.out.2.2.2.2, hg2⟩⟩
    · have t1 : ¬ (a : Int) < (n : Int) := by omega
      go_upto_region 18 with (go_at_call 15; refine (HWb.out _).mono ?_; rintro e w' ⟨x, hx, rfl, rfl⟩)
      obtain ⟨sf, hsf⟩ : ∃ y, (s1 + (16384 + x)) % 4294967296 = y := ⟨_, rfl⟩
      have hsfI : ((s1 : Int) + (16384 + (x : Int))) % 4294967296 = (sf : Int) := by omega
      have hsfL : sf < 4294967296 := by omega
      have hWt := win_far HW.out.idle HW.out.flat HW.out.ready HW.out.n HW.out.acks hg16 sf (16384 + x) [102, 97, 114] hsf.symm (by omega) (by omega) (by decide) (by decide)
      obtain ⟨c1, hc1⟩ : ∃ c1, tTake c ⟨0, 0, sf, 10, 16, 4000, 0, [102, 97, 114]⟩ = c1 := ⟨_, rfl⟩
      rw [hc1] at hWt
      have HWt := hid hWt
      have hcv := fun (w : World) => conv_litN w #[.int .u8 102, .int .u8 97, .int .u8 114] 3 rfl
      have HT := hid (take_at (HW.out.conn.keep (below_alloc wr (.cells #[.int .u8 102, .int .u8 97, .int .u8 114] 5 (3, 4)))) 0 0 sf 10 16 4000 0 [102, 97, 114] (some ⟨wr.heap.size, 0, none⟩) 3 3 hsfL (by decide) (by decide) (by decide) (bs_litm #[.int .u8 102, .int .u8 97, .int .u8 114] [102, 97, 114] 3 _ rfl rfl (by decide) rfl) rfl (by decide) (by omega) (.inr fun k hk hF => by simp [Value.ownBlock] at hk; subst hk; exact Nat.lt_irrefl _ (HW.out.conn.inv.lt _ hF).2) c1 hc1)
      clear hWt hc1 hsf
      go_upto_region 19 with (go_at_call 16; refine HT.out.mono ?_; rintro e w3 ⟨⟨u, rfl⟩, F3, hc, _, _⟩; have H3 := hid hc; clear hc)
      clear hcv
      have HOut := hid (out_conn H3.out _ (by rw [out_idle HWt.out.1, if_pos HWt.out.2.1]))
      go_upto_region 20 with (go_at_call 17; refine HOut.out.mono ?_; rintro e w4 ⟨v4, rfl, ho, hc⟩; rw [out_idle HWt.out.1] at hc; have H4 := hid hc; have Ho4 := hid ho; clear ho hc)
      obtain ⟨b, cap, vs, rfl, _, hcell⟩ := Ho4.out.one_at
      obtain ⟨sg, hsg⟩ : ∃ x, (s1 + got) % 4294967296 = x := ⟨_, rfl⟩
      have hsgI : ((s1 : Int) + (got : Int)) % 4294967296 = (sg : Int) := by omega
      have p3 : w4.cell? ⟨b, 3, none⟩ = some (.int .u32 (sg : Int)) := by rw [hcell 3 (by decide), ← hsg, ← HWt.out.2.2.1.r]; rfl
      clear hcell hsg HOut
      cases recv with
      | false =>
        have HS := hid (state_conn H4.out 2 HWt.out.1.st)
        go_wp2_with (go_at_call 18; refine HS.out.mono ?_; rintro e w' ⟨rfl, rfl⟩)
        go_ret
        exact ⟨rfl, Hb1.out.trans (H4.out.bel.mono Hb1.out.size)⟩
      | true =>
        go_upto_region 24 with fail
        have hRe := recv_conn H4.out
        have HRe := hid hRe
        clear hRe p3
        go_upto_region 25 with (go_at_call 19; refine HRe.out.mono ?_; rintro e w5 ⟨v5, F5, rfl, ho, hc, _⟩; have H5 := hid hc; obtain ⟨A5, cap5, rfl⟩ := slice_len ho.bs HWt.out.2.2.2.1; clear ho hc)
        have hir := idle_recv (idle_acks HWt.out.1 false)
        have HIr := hid hir
        obtain ⟨sm, hsm⟩ : ∃ b, decide ((16384 - (got : Int)) < 1460) = b := ⟨_, rfl⟩
        have Hsm := hid hsm
        have hac : (tRecv ({ c1 with acks := false } : TConn)).acks = sm := by
          show (false || decide ((16384 - (c1.inn.ready.length : Int)) < 1460)) = sm
          rw [HWt.out.2.2.2.1, hsm]; rfl
        have Hac := hid hac
        have HOut := hid (out_conn H5.out _ (by rw [out_idle HIr.out, Hac.out]))
        clear hir hsm hac
        cases sm with
        | true =>
          have t2 : (16384 - (got : Int)) < 1460 := by have := Hsm.out; simpa using this
          go_upto_region 26 with (go_at_call 17; refine HOut.out.mono ?_; rintro e w6 ⟨v6, rfl, ho, hc⟩; rw [out_idle HIr.out] at hc; have H6 := hid hc; have Ho6 := hid ho; clear ho hc)
          have Ho7 : OwnSgL w6 w5.heap.size v6 [tSegment (tRecv ({ c1 with acks := false } : TConn)) (tRecv ({ c1 with acks := false } : TConn)).out.n 16 []] := Ho6.out
          obtain ⟨b2, cap2, vs2, rfl, _, hcell⟩ := Ho7.one_at
          have p5 : w6.cell? ⟨b2, 5, none⟩ = some (.int .i64 16384) := by rw [hcell 5 (by decide)]; rfl
          have HRe := hid (recv_conn H6.out)
          clear hcell HOut Ho7
          go_wp2_with (go_at_call 19; refine HRe.out.mono ?_; rintro e w7 ⟨v7, F7, rfl, ho, hc, _⟩; have H7 := hid hc; obtain ⟨A7, cap7, rfl⟩ := slice_len ho.bs (n := 0) rfl; clear ho hc)
          go_ret
          exact ⟨rfl, Hb1.out.trans (H7.out.bel.mono Hb1.out.size)⟩
        | false =>
          have t2 : ¬ (16384 - (got : Int)) < 1460 := by have := Hsm.out; simpa using this
          go_upto_region 26 with (go_at_call 17; refine HOut.out.mono ?_; rintro e w6 ⟨v6, rfl, ho, hc⟩; rw [out_idle HIr.out] at hc; have H6 := hid hc; have Ho6 := hid ho; clear ho hc)
          have Ho7 : OwnSgL w6 w5.heap.size v6 [] := Ho6.out
          obtain ⟨A6, cap6, rfl⟩ := Ho7.nil_at
          have HRe := hid (recv_conn H6.out)
          clear HOut Ho7
          go_wp2_with (go_at_call 19; refine HRe.out.mono ?_; rintro e w7 ⟨v7, F7, rfl, ho, hc, _⟩; have H7 := hid hc; obtain ⟨A7, cap7, rfl⟩ := slice_len ho.bs (n := 0) rfl; clear ho hc)
          go_ret
          exact ⟨rfl, Hb1.out.trans (H7.out.bel.mono Hb1.out.size)⟩
end Go.Proofs.Ytahlcjkcdgahkaa
