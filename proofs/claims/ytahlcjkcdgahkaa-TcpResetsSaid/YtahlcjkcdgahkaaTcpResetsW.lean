/- The walk of TcpResets. -/
import Derived.Test.YtahlcjkcdgahkaaTcpW
namespace Go.Proofs.Ytahlcjkcdgahkaa
open Go Go.RowKit
attribute [local go_sem ↓] Go.wp_at_zero Go.wp_at_succ
set_option maxRecDepth 100000

theorem resets_at (seq : Nat) (data : List UInt8) (hl : data.length ≤ 16384) (s1 : Nat) (h1 : (seq + 1) % 4294967296 = s1) :
    Idle (tTake (tOpen seq 9 4000) ⟨0, 0, s1, 10, 16, 4000, 0, data⟩) ∧ (tTake (tOpen seq 9 4000) ⟨0, 0, s1, 10, 16, 4000, 0, data⟩).inn.ready = data ∧ (tTake (tOpen seq 9 4000) ⟨0, 0, s1, 10, 16, 4000, 0, data⟩).inn.r = (s1 + data.length) % 4294967296 := by
  have hi := idle_open seq 9 4000
  have hst := strm_open seq 9 4000 data (by omega)
  have ht := take_strm hst (fun j hj => by cases hj) ⟨0, 0, s1, 10, 16, 4000, 0, data⟩ 0 (by rw [h1]; simp; omega) (fun j b hb => by rw [Nat.zero_add]; exact hb) (show tBit 16 1 = false by decide)
  have hq : (tOpen seq 9 4000).inn.q = 16384 := rfl
  rw [hq] at ht
  simp only at ht
  rw [runP_whole 16384 data.length hl] at ht
  have hk := take_ack_idle hi ⟨0, 0, s1, 10, 16, 4000, 0, data⟩ rfl rfl ht.1.done
  refine ⟨hk.1, ?_, ?_⟩
  · rw [hk.2.1, ht.2]
    show [] ++ _ = _
    simp
  · rw [hk.2.1, ht.1.r, h1]
set_option maxHeartbeats 4000000 in
theorem tcpResets_walk (v : Value) (data : List UInt8) (seq at_ : Nat) (hs : seq < 4294967296) (ha : at_ < 4294967296) (w : World) (h : Bs w v data) :
    Calls Try.prog 6 #[.int .u32 (seq : Int), .int .u32 (at_ : Int), v] w fun e w' => e = .returned (.bool true) ∧ Below w.heap.size w w' := by
  have Hb := hid h
  obtain ⟨n, hn⟩ : ∃ n, data.length = n := ⟨_, rfl⟩
  obtain ⟨A, cap, rfl⟩ := slice_len h hn
  have Hn := hid hn
  clear h hn
  by_cases hbig : n > 1000
  · have t1 : (n : Int) > 1000 := by omega
    clear hbig
    go_enter Try.func6, Try.ntmps6
    go_wp2_with (go_at_call 13; refine (known_any _).mono ?_; rintro e w1 ⟨rfl, hb⟩; have Hb1 := hid hb; clear hb)
    go_ret
    exact ⟨rfl, Hb1.out⟩
  have t1 : ¬ (n : Int) > 1000 := by omega
  obtain ⟨s1, hs1⟩ : ∃ x, (seq + 1) % 4294967296 = x := ⟨_, rfl⟩
  have hs1I : ((seq : Int) + 1) % 4294967296 = (s1 : Int) := by omega
  have hs1L : s1 < 4294967296 := by omega
  obtain ⟨s2, hs2⟩ : ∃ x, (s1 + n) % 4294967296 = x := ⟨_, rfl⟩
  have hs2I : ((s1 : Int) + (n : Int)) % 4294967296 = (s2 : Int) := by omega
  have hs2L : s2 < 4294967296 := by omega
  have hR := resets_at seq data (by rw [Hn.out]; omega) s1 hs1
  rw [Hn.out, hs2] at hR
  obtain ⟨c1, hc1⟩ : ∃ c, (tTake (tOpen seq 9 4000) ⟨0, 0, s1, 10, 16, 4000, 0, data⟩) = c := ⟨_, rfl⟩
  rw [hc1] at hR
  have Hc1 := hid hc1
  have HR := hid hR
  have HO := hid (opened_any seq 9 4000 hs (by decide) ⟨by decide, by decide⟩)
  clear hs1 hs2 hR hc1 hbig
  go_enter Try.func6, Try.ntmps6
  go_upto_region 8 with (first
    | (go_at_call 13; refine (known_any _).mono ?_; rintro e w1 ⟨rfl, hb⟩; have Hb1 := hid hb; clear hb)
    | (go_at_call 14; refine (HO.out w1).mono ?_; rintro e w2 ⟨g, F, rfl, hc⟩; have H2 := hid hc; clear hc))
  have HT1 := hid (take_at H2.out 0 0 s1 10 16 4000 0 data A n cap hs1L (by decide) (by decide) (by decide) ((Hb.out.below Hb1.out).below H2.out.bel) Hn.out (by omega) (by omega) (H2.out.farB Hb.out Hb1.out.size) c1 Hc1.out)
  go_upto_region 9 with (go_at_call 16; refine HT1.out.mono ?_; rintro e w3 ⟨⟨u, rfl⟩, F3, hc, _, _⟩; have H3 := hid hc; clear hc)
  go_upto_region 10 with (go_at_call 17; refine (out_conn H3.out _ rfl).mono ?_; rintro e w4 ⟨v4, rfl, _, hc⟩; rw [out_idle HR.out.1] at hc; have H4 := hid hc; clear hc)
  have hcv := fun (w : World) => conv_litN w #[.int .u8 110, .int .u8 111, .int .u8 110, .int .u8 101] 4 rfl
  have H4a := H4.out.keep (below_alloc w4 (.cells #[.int .u8 110, .int .u8 111, .int .u8 110, .int .u8 101] 5 (4, 5)))
  have HT2 := hid (take_at H4a 0 0 s2 0 0 4000 0 [110, 111, 110, 101] (some ⟨w4.heap.size, 0, none⟩) 4 4 hs2L (by decide) (by decide) (by decide) (bs_litm #[.int .u8 110, .int .u8 111, .int .u8 110, .int .u8 101] [110, 111, 110, 101] 4 _ rfl rfl (by decide) rfl) rfl (by decide) (by omega) (.inr fun k hk hF => by simp [Value.ownBlock] at hk; subst hk; exact Nat.lt_irrefl _ (H4.out.inv.lt _ hF).2) _ (take_mute _ rfl))
  clear H4a
  go_upto_region 11 with (go_at_call 16; refine HT2.out.mono ?_; rintro e w5 ⟨⟨u, rfl⟩, F5, hc, _, _⟩; have H5 := hid hc; clear hc)
  clear hcv
  have hi1 := idle_acks HR.out.1 false
  have HT3 := hid (take_at H5.out 0 0 at_ 0 4 0 0 [] none 0 0 ha (by decide) (by decide) (by decide) (Bs.nil _) rfl (by decide) (by omega) (.inl rfl) _ (take_rst (by show c1.state ≠ 5; rw [HR.out.1.st]; decide) _ rfl))
  have Hi1 := hid hi1
  clear hi1
  by_cases hat : at_ = s2
  · have e3 : (if at_ = c1.inn.r then ({ c1 with acks := false, state := 5, off := true } : TConn) else { c1 with acks := false }) = { c1 with acks := false, state := 5, off := true } := by rw [if_pos (by rw [HR.out.2.2]; exact hat)]
    have He3 := hid e3
    clear e3
    subst hat
    go_upto_region 12 with (go_at_call 16; refine HT3.out.mono ?_; rintro e w6 ⟨⟨u, rfl⟩, F6, hc, _, _⟩; have H6 := hid (open_ok hc _ He3.out); clear hc)
    go_upto_region 13 with (go_at_call 17; refine (out_conn H6.out [] (by rw [out_off rfl])).mono ?_; rintro e w7 ⟨v7, rfl, ⟨qs, ho, hl⟩, hc⟩; rw [out_off rfl] at hc; have H7 := hid hc; obtain rfl : qs = [] := List.map_eq_nil_iff.1 hl; obtain ⟨_, A7, c7, rfl, _, _, _⟩ := RowN.of_own ho.row; clear ho hl hc)
    have hRe := recv_conn H7.out
    rw [show ({ c1 with acks := false, state := 5, off := true } : TConn).inn.ready = data from HR.out.2.1] at hRe
    have HRe := hid hRe
    clear hRe
    go_upto_region 14 with (go_at_call 19; refine HRe.out.mono ?_; rintro e w8 ⟨v8, F8, rfl, ho, hc, _⟩; have H8 := hid hc; have Ho8 := hid ho; clear ho hc)
    go_upto_region 15 with fail
    have s6 := run_str Try.underlying28 Try.underlying5 Try.underlying9 Ho8.out.bs
    have s7 := run_str Try.underlying28 Try.underlying5 Try.underlying9 ((Hb.out.below Hb1.out).below H8.out.bel)
    have HS := hid (state_conn H8.out 5 rfl)
    have HSe := hid (send_conn H8.out (.slice none 0 0) [] (Bs.nil _))
    go_wp2_with (first
      | (go_at_call 18; refine HS.out.mono ?_; rintro e w' ⟨rfl, rfl⟩)
      | (go_at_call 21; refine HSe.out.mono ?_; rintro e w9 ⟨he, F9, hc, _⟩; rw [show (tSend (tRecv ({ c1 with acks := false, state := 5, off := true } : TConn)) []).2 = 1 from by unfold tSend; rw [if_pos (.inr ⟨by show ¬ (5 : Int) = 2; decide, by show ¬ (5 : Int) = 3; decide⟩)]] at he; subst he; have H9 := hid hc; clear hc))
    go_ret
    exact ⟨rfl, Hb1.out.trans (H9.out.bel.mono Hb1.out.size)⟩
  · have e3 : (if at_ = c1.inn.r then ({ c1 with acks := false, state := 5, off := true } : TConn) else { c1 with acks := false }) = { c1 with acks := false } := by rw [if_neg (by rw [HR.out.2.2]; exact hat)]
    have He3 := hid e3
    have hab : ((at_ : Int) == (s2 : Int)) = false := by simp; omega
    clear e3 hat
    go_upto_region 12 with (go_at_call 16; refine HT3.out.mono ?_; rintro e w6 ⟨⟨u, rfl⟩, F6, hc, _, _⟩; have H6 := hid (open_ok hc _ He3.out); clear hc)
    go_upto_region 13 with (go_at_call 17; refine (out_conn H6.out [] (by rw [out_idle Hi1.out]; rfl)).mono ?_; rintro e w7 ⟨v7, rfl, ⟨qs, ho, hl⟩, hc⟩; rw [out_idle Hi1.out] at hc; have H7 := hid hc; obtain rfl : qs = [] := List.map_eq_nil_iff.1 hl; obtain ⟨_, A7, c7, rfl, _, _, _⟩ := RowN.of_own ho.row; clear ho hl hc)
    have hRe := recv_conn H7.out
    rw [show ({ c1 with acks := false } : TConn).inn.ready = data from HR.out.2.1] at hRe
    have HRe := hid hRe
    clear hRe
    go_upto_region 14 with (go_at_call 19; refine HRe.out.mono ?_; rintro e w8 ⟨v8, F8, rfl, ho, hc, _⟩; have H8 := hid hc; have Ho8 := hid ho; clear ho hc)
    go_upto_region 16 with fail
    have s6 := run_str Try.underlying28 Try.underlying5 Try.underlying9 Ho8.out.bs
    have s7 := run_str Try.underlying28 Try.underlying5 Try.underlying9 ((Hb.out.below Hb1.out).below H8.out.bel)
    have HS := hid (state_conn H8.out 2 HR.out.1.st)
    go_wp2_with (go_at_call 18; refine HS.out.mono ?_; rintro e w' ⟨rfl, rfl⟩)
    go_ret
    exact ⟨rfl, Hb1.out.trans (H8.out.bel.mono Hb1.out.size)⟩
end Go.Proofs.Ytahlcjkcdgahkaa
