/- The walk of TcpGives, once the connection is open; both joined. -/
import Derived.Test.YtahlcjkcdgahkaaTcpGivesW
namespace Go.Proofs.Ytahlcjkcdgahkaa
open Go Go.RowKit
attribute [local go_sem ↓] Go.wp_at_zero Go.wp_at_succ
set_option maxRecDepth 100000

theorem OwnSgL.one_bs {w : World} {base : Nat} {v : Value} {s : TSeg} (h : OwnSgL w base v [s]) : ∃ b cap vs, v = .slice (some ⟨b, 0, none⟩) 1 cap ∧ (∀ j, j < 8 → w.cell? ⟨b, j, none⟩ = (s.cells vs)[j]?) ∧ Bs w vs s.data := by
  obtain ⟨qs, ho, hl⟩ := h
  obtain ⟨sg, rfl⟩ : ∃ q, qs = [q] := by
    have h1 := congrArg List.length hl
    simp at h1
    exact List.length_eq_one_iff.1 h1
  obtain ⟨b, cap, rfl, hb1, _, hcell⟩ := ho.at (by simp)
  have h0 : sg.1 = s := by simpa using hl
  refine ⟨b, cap, sg.2, rfl, fun j hj => ?_, ?_⟩
  · have := hcell 0 (by simp) j hj
    simp at this
    rw [this, h0]
  · have := (ho.datas sg (by simp)).bs
    rw [h0] at this
    exact this
set_option maxHeartbeats 8000000 in
theorem gives_open (v : Value) (data : List UInt8) (first : Nat) (hf : first < 4294967296) (w : World) (h : Bs w v data) (h0 : 0 < data.length) (hl : data.length ≤ 900) :
    Calls Try.prog 7 #[v, .int .u32 (first : Int), .bool true] w fun e w' => e = .returned (.bool true) ∧ Below w.heap.size w w' := by
  have Hb := hid h
  have Hd0 := hid h0
  have Hdl := hid hl
  obtain ⟨n, hn⟩ : ∃ n, data.length = n := ⟨_, rfl⟩
  obtain ⟨A, cap, rfl⟩ := slice_len h hn
  have Hn := hid hn
  rw [hn] at h0 hl
  have t0 : ((n : Int) == 0) = false := by simp; omega
  have t1 : ¬ (n : Int) > 900 := by omega
  have HN := hid (fun wx => (show Calls Try.prog 22 #[.agg #[.int .i64 7, .int .i64 2049, .int .u32 3, .int .u32 0, .int .i64 2, .int .i64 4000, .int .i64 1000, .slice none 0 0], .int .u32 (first : Int)] wx _ from new_conn (sSyn 3 4000) none 0 0 first wx (by show bits .andNot .i64 2 8 = 2; rfl) (by show (3 : Nat) < 4294967296; decide) hf ⟨by show (0 : Int) ≤ 4000; decide, by show (4000 : Int) ≤ 65535; decide⟩))
  have HOp := hid (fun wx => (show Calls Try.prog 14 #[.int .u32 3, .int .u32 (first : Int), .int .i64 4000] wx _ from opened_any 3 first 4000 (by decide) hf ⟨by decide, by decide⟩ wx))
  clear h hn h0 hl
  go_enter Try.func7, Try.ntmps7
  go_upto_region 11 with (first
    | (go_at_call 13; refine (known_any _).mono ?_; rintro e w0 ⟨rfl, hb⟩; have Hb0 := hid hb; clear hb)
    | (go_at_call 22; refine (HN.out _).mono ?_; rintro e w1 ⟨g0, F0, rfl, hc⟩; have H2 := hid hc; clear hc)
    | (go_at_call 14; refine (HOp.out _).mono ?_; rintro e w3 ⟨g, F, rfl, hc⟩; have H3 := hid hc; clear hc))
  have hsd := send_conn H3.out (.slice A n cap) data (((Hb.out.below Hb0.out).below H2.out.bel).below H3.out.bel)
  rw [gone_send first data Hdl.out] at hsd
  have HSd := hid hsd
  clear hsd
  go_upto_region 14 with (go_at_call 21; refine HSd.out.mono ?_; rintro e w4 ⟨rfl, F4, hc, _⟩; have H4 := hid hc; clear hc)
  obtain ⟨s0, hs0⟩ := gone_out first data Hdl.out Hd0.out
  have HO0 := hid (out_conn H4.out [s0] (congrArg Prod.fst hs0))
  have Hs0 := hid hs0
  clear hs0
  go_upto_region 17 with (go_at_call 17; refine HO0.out.mono ?_; rintro e w5 ⟨v5, rfl, ho, hc⟩; have H5 := hid (open_ok hc _ (congrArg Prod.snd Hs0.out)); obtain ⟨b, cap3, vs, rfl, _, _⟩ := ho.one_at; clear ho hc)
  obtain ⟨c1, hc1⟩ : ∃ c1, tGone first data = c1 := ⟨_, rfl⟩
  have HSt := hid (show Stuck c1 by rw [← hc1]; exact (stuck_gone first data Hdl.out Hd0.out).1)
  have HC0 := hid (show Conn w1 w5 g (gAt c1 0 0) 0 F4 by rw [← hc1, (stuck_gone first data Hdl.out Hd0.out).2]; exact H5.out)
  have Hb1 := hid (Hb0.out.trans (H2.out.bel.mono Hb0.out.size))
  have hst1 : c1.state = 2 := by rw [← hc1]; rfl
  have HStv := hid (show c1.state = 2 from hst1)
  have HBy := hid (show c1.out.bytes = data by rw [← hc1]; rfl)
  have HLen := hid (show c1.out.bytes.length = n by rw [HBy.out]; exact Hn.out)
  have HNx := hid (fun t : Nat => (show (if c1.state = 1 then ({ gAt c1 t 0 with begin_ := true } : TConn) else { gAt c1 t 0 with again := true }) = { gAt c1 t 0 with again := true } from if_neg (by rw [hst1]; decide)))
  have hm1000 : c1.out.m = 1000 := by rw [← hc1]; rfl
  have HOn := hid (fun t : Nat => again_out HSt.out hst1 (by rw [HBy.out, ← hc1]; exact gone_sent first data Hdl.out) (by rw [HBy.out]; exact Hd0.out) (by rw [HBy.out, hm1000]; have := Hdl.out; omega) t)
  clear hst1 hc1 hm1000 H3 HO0 H2 HN HOp HSd Hs0 H4 H5 Hb0
  go_loopg [10] 6 (fun gk s10 wr => ∃ t m F, t ≤ 5 ∧ gk = 6 - t ∧ s10 = .int .i64 (t : Int) ∧ m ≤ 10 ∧ Conn w1 wr g (gAt c1 t 0) m F)
  case atStart => exact ⟨0, _, _, by omega, rfl, rfl, by omega, HC0.out⟩
  case round =>
    obtain ⟨t, m, F', ht, rfl, rfl, hm, hc⟩ := hrel
    have HC := hid hc
    have hT1 : ∀ L : Int, L = ((200 * 2 ^ t : Nat) : Int) - 1 → Calls Try.prog 23 #[.pointer (some ⟨g, 0, none⟩), .int .i64 L] wr fun e w' => (∃ u, e = .returned u) ∧ Conn w1 w' g (gAt c1 t (200 * 2 ^ t - 1)) m F' := by
      intro L hL
      subst hL
      refine (tick_conn HC.out _).mono ?_
      rintro e w' ⟨hu, h, _⟩
      rw [stuck_wait HSt.out t ht] at h
      exact ⟨hu, h⟩
    have HT1 := hid hT1
    have Htt := hid (stuck_try HSt.out t ht)
    have HOs := hid (stuck_out HSt.out t (200 * 2 ^ t - 1))
    clear hc hT1 HC0
    have h6 : t = 0 ∨ t = 1 ∨ t = 2 ∨ t = 3 ∨ t = 4 ∨ t = 5 := by omega
    rcases h6 with rfl | rfl | rfl | rfl | rfl | rfl
    case inr.inr.inr.inr.inr =>
      have e5 := Htt.out
      rw [if_pos rfl] at e5
      have He5 := hid e5
      clear e5
      go_upto_region 23 with (first
        | (go_at_call 23; refine (HT1.out _ (by decide)).mono ?_; rintro e w4 ⟨⟨u, rfl⟩, hc⟩; have H4 := hid hc; have HOa := hid (out_conn H4.out [] (by rw [HOs.out])); clear hc)
        | (go_at_call 17; refine HOa.out.mono ?_; rintro e w5 ⟨v5, rfl, ho, hc⟩; rw [HOs.out] at hc; have H5 := hid hc; obtain ⟨A5, cap5, rfl⟩ := ho.nil_at; have HSa := hid (state_conn H5.out _ HStv.out); have HT2 := hid (tick_conn H5.out 1); clear ho hc)
        | (go_at_call 18; refine HSa.out.mono ?_; rintro e w' ⟨rfl, rfl⟩)
        | (go_at_call 23; refine HT2.out.mono ?_; rintro e w6 ⟨⟨u, rfl⟩, hc, _⟩; have H6 := hid (open_ok hc _ He5.out); clear hc))
      have HOb := hid (out_conn H6.out _ (congrArg Prod.fst (gave_out HSt.out)))
      go_upto_region 27 with (go_at_call 17; refine HOb.out.mono ?_; rintro e w7 ⟨v7, rfl, ho, hc⟩; have H7 := hid (open_ok hc _ (congrArg Prod.snd (gave_out HSt.out))); have Ho7 := hid ho; obtain ⟨b, cap, vs, rfl, _, hcell⟩ := ho.one_at; have p4 : w7.cell? ⟨b, 4, none⟩ = some (.int .i64 20) := (hcell 4 (by decide)).trans rfl; clear ho hc hcell)
      have HSb := hid (state_conn H7.out 5 rfl)
      have HOc := hid (out_conn H7.out [] (by rw [out_off rfl]))
      go_wp2_with (first
        | (go_at_call 18; refine HSb.out.mono ?_; rintro e w' ⟨rfl, rfl⟩)
        | (go_at_call 17; refine HOc.out.mono ?_; rintro e w8 ⟨v8, rfl, ho, hc⟩; have H8 := hid hc; obtain ⟨A8, cap8, rfl⟩ := ho.nil_at; clear ho hc))
      go_ret
      exact ⟨rfl, Hb1.out.trans (H8.out.bel.mono Hb1.out.size)⟩
    all_goals
      have e5 := Htt.out
      rw [if_neg (by decide)] at e5
      have He5 := hid e5
      clear e5
      go_upto_region 23 with (first
        | (go_at_call 23; refine (HT1.out _ (by decide)).mono ?_; rintro e w4 ⟨⟨u, rfl⟩, hc⟩; have H4 := hid hc; have HOa := hid (out_conn H4.out [] (by rw [HOs.out])); clear hc)
        | (go_at_call 17; refine HOa.out.mono ?_; rintro e w5 ⟨v5, rfl, ho, hc⟩; rw [HOs.out] at hc; have H5 := hid hc; obtain ⟨A5, cap5, rfl⟩ := ho.nil_at; have HSa := hid (state_conn H5.out _ HStv.out); have HT2 := hid (tick_conn H5.out 1); clear ho hc)
        | (go_at_call 18; refine HSa.out.mono ?_; rintro e w' ⟨rfl, rfl⟩)
        | (go_at_call 23; refine HT2.out.mono ?_; rintro e w6 ⟨⟨u, rfl⟩, hc, _⟩; have H6 := hid (open_ok hc _ (He5.out.trans (HNx.out _))); clear hc))
      have HOb := hid (out_conn H6.out _ (congrArg Prod.fst (HOn.out _)))
      go_upto_region 24 with (go_at_call 17; refine HOb.out.mono ?_; rintro e w7 ⟨v7, rfl, ho, hc⟩; have H7 := hid (open_ok hc _ (congrArg Prod.snd (HOn.out _))); have Ho7 := hid ho; clear ho hc)
      obtain ⟨b, cap2, vs, rfl, hcell, hbs⟩ := Ho7.out.one_bs
      obtain ⟨A7, cap7, rfl⟩ := slice_len hbs HLen.out
      have p4 : w7.cell? ⟨b, 4, none⟩ = some (.int .i64 16) := (hcell 4 (by decide)).trans rfl
      have p7 : w7.cell? ⟨b, 7, none⟩ = some (.slice A7 n cap7) := (hcell 7 (by decide)).trans rfl
      have s8 := fun q => run_str Try.underlying28 Try.underlying5 Try.underlying9 (hbs.drewN q)
      have s9 := fun q => run_str Try.underlying28 Try.underlying5 Try.underlying9 (((Hb.out.below Hb1.out).below H7.out.bel).drewN q)
      rw [show (tSegment c1 c1.out.u 16 c1.out.bytes).data = data from HBy.out] at s8
      clear hcell hbs
      go_upto_region 28 with fail
      go_quiet (fail)
      go_wp2_with fail
      first
        | (go_roundg 5; (case measure => omega); (case rel => exact ⟨1, m, F', by omega, rfl, rfl, hm, H7.out.keep (below_drewN (Below.refl _ _) nq)⟩))
        | (go_roundg 4; (case measure => omega); (case rel => exact ⟨2, m, F', by omega, rfl, rfl, hm, H7.out.keep (below_drewN (Below.refl _ _) nq)⟩))
        | (go_roundg 3; (case measure => omega); (case rel => exact ⟨3, m, F', by omega, rfl, rfl, hm, H7.out.keep (below_drewN (Below.refl _ _) nq)⟩))
        | (go_roundg 2; (case measure => omega); (case rel => exact ⟨4, m, F', by omega, rfl, rfl, hm, H7.out.keep (below_drewN (Below.refl _ _) nq)⟩))
        | (go_roundg 1; (case measure => omega); (case rel => exact ⟨5, m, F', by omega, rfl, rfl, hm, H7.out.keep (below_drewN (Below.refl _ _) nq)⟩))
theorem tcpGives_walk (v : Value) (data : List UInt8) (first : Nat) (op : Bool) (hf : first < 4294967296) (w : World) (h : Bs w v data) :
    Calls Try.prog 7 #[v, .int .u32 (first : Int), .bool op] w fun e w' => e = .returned (.bool true) ∧ Below w.heap.size w w' := by
  by_cases hb : data.length = 0 ∨ 900 < data.length
  · obtain ⟨n, hn⟩ : ∃ n, data.length = n := ⟨_, rfl⟩
    obtain ⟨A, cap, rfl⟩ := slice_len h hn
    rw [hn] at hb
    clear h hn
    by_cases h0 : n = 0
    · subst h0
      clear hb
      go_enter Try.func7, Try.ntmps7
      go_wp2_with (go_at_call 13; refine (known_any _).mono ?_; rintro e w1 ⟨rfl, hb⟩; have Hb1 := hid hb; clear hb)
      go_ret
      exact ⟨rfl, Hb1.out⟩
    · have t0 : ((n : Int) == 0) = false := by simp; omega
      have t1 : (n : Int) > 900 := by omega
      clear hb h0
      go_enter Try.func7, Try.ntmps7
      go_wp2_with (go_at_call 13; refine (known_any _).mono ?_; rintro e w1 ⟨rfl, hb⟩; have Hb1 := hid hb; clear hb)
      go_ret
      exact ⟨rfl, Hb1.out⟩
  · cases op with
    | true => exact gives_open v data first hf w h (by omega) (by omega)
    | false => exact gives_syn v data first hf w h (by omega) (by omega)
end Go.Proofs.Ytahlcjkcdgahkaa
