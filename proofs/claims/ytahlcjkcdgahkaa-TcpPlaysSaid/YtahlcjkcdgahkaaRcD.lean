/- The document's Tick. -/
import Derived.Test.YtahlcjkcdgahkaaRcC
namespace Go.Proofs.Ytahlcjkcdgahkaa
open Go Go.RowKit
attribute [local go_sem ↓] Go.wp_at_zero Go.wp_at_succ
set_option maxRecDepth 100000

set_option maxHeartbeats 4000000 in
theorem rtick_conn (base g : Nat) (c : TConn) (q : Nat) (F : Nat → Prop) (n : Int) (w : World) (h : RConn w base g c q F) (ho : OutOk c) (hb : BaseOk c) (hn : -9223372036854775808 ≤ n ∧ n ≤ 1099511627776) :
    Calls Try.prog 49 #[.pointer (some ⟨g, 0, none⟩), .int .i64 n] w (RPost base g (tTick c n) q F w) := by
  obtain ⟨own, owe, gv, lt, vi, vo, vs, h1, h2⟩ := h
  have H1 := hid h1
  have H2 := hid h2
  have Ho := hid ho
  have Hb := hid hb
  obtain ⟨A, len, cap, rfl, hlen⟩ : ∃ A l c2, vs = .slice A l c2 ∧ c.out.bytes.length = l := by obtain ⟨_, A, c2, rfl, _⟩ := h1.snt.rowN; exact ⟨A, _, c2, rfl, rfl⟩
  obtain ⟨st, hst⟩ : ∃ x, c.state = x := ⟨_, rfl⟩
  obtain ⟨cl, hcl⟩ : ∃ x, c.out.clock = x := ⟨_, rfl⟩
  obtain ⟨t, ht⟩ : ∃ x, c.out.tries = x := ⟨_, rfl⟩
  have c2 : w.cell? ⟨g, 2, none⟩ = some (.int .i64 st) := by rw [← hst]; exact h1.tab.cell 2
  have c15 : w.cell? ⟨g, 15, none⟩ = some (.int .i64 cl) := by rw [← hcl]; exact h1.tab.cell 15
  have c16 : w.cell? ⟨g, 16, none⟩ = some (.int .i64 t) := by rw [← ht]; exact h1.tab.cell 16
  have c17 : w.cell? ⟨g, 17, none⟩ = some (.bool own) := h1.tab.cell 17
  have c19 : w.cell? ⟨g, 19, none⟩ = some (.bool c.again) := h1.tab.cell 19
  have c20 : w.cell? ⟨g, 20, none⟩ = some (.bool gv) := h1.tab.cell 20
  have z2 := h1.tab.frozen 2
  have z15 := h1.tab.frozen 15
  have z16 := h1.tab.frozen 16
  have z17 := h1.tab.frozen 17
  have z19 := h1.tab.frozen 19
  have z20 := h1.tab.frozen 20
  have HR := rruns_at g c.state c.out.u c.out.n c.out.fin A len cap c.out.w w ho.u ho.n (h1.tab.cell 2) (h1.tab.cell 4) (h1.tab.cell 5) (h1.tab.cell 10) (h1.tab.cell 11) (h1.tab.cell 14)
  have hrl := runs_law ho hb
  rw [hlen] at hrl
  obtain ⟨rb, hrb⟩ : ∃ b, rRuns c.state c.out.u c.out.n c.out.fin len c.out.w = b := ⟨_, rfl⟩
  rw [hrb] at HR hrl
  have HR := hid HR
  have Hst := hid hst
  have Hcl := hid hcl
  have Ht := hid ht
  clear hrb hlen
  cases rb with
  | false =>
    have Hr := hid (show tTick c n = { c with out := { c.out with clock := 0 } } by unfold tTick; rw [if_pos (hrl.1 rfl)])
    rw [Hr.out]
    clear h1 h2 ho hb hrl hst hcl ht hn
    go_enter Try.func49, Try.ntmps49
    go_wp2_with (first | (go_at_call 66; refine HR.out.mono ?_; rintro e w' ⟨rfl, qd, rfl⟩) | fail)
    go_end0
    exact ⟨⟨_, rfl⟩, ⟨own, owe, gv, lt, vi, vo, _, (H1.out.drewN qd).set1 15 (.int .i64 0), H2.out.early, H2.out.own, H2.out.owe, H2.out.gv, H2.out.len, H2.out.num⟩, (Below.frameF (below_drewN (Below.refl _ _) qd) F).trans ((H1.out.drewN qd).fset 15 _) (fun _ _ h => h)⟩
  | true =>
    have hno : ¬ (c.state = 5 ∨ (c.out.u = c.out.n ∧ (c.out.left = 0 ∨ c.out.w ≠ 0))) := fun e => by cases hrl.2 e
    have h5 : c.state ≠ 5 := fun e => hno (.inl e)
    have ht5 := ho.tries5 h5
    have ht0 := ho.tries0
    have hc0 := ho.clock0
    have hc1 := hb.clock h5
    have hoff := hid (show c.off = false by cases e : c.off with | false => rfl | true => exact absurd (hb.off e) h5)
    obtain ⟨L, hL⟩ : ∃ x : Int, 200 * 2 ^ t.toNat = x := ⟨_, rfl⟩
    rw [ht] at ht5 ht0 hc1
    rw [hcl] at hc0 hc1
    rw [hL] at hc1
    have hL2 : 200 ≤ L ∧ L ≤ 6400 := by
      have h6 : t = 0 ∨ t = 1 ∨ t = 2 ∨ t = 3 ∨ t = 4 ∨ t = 5 := by omega
      rcases h6 with rfl | rfl | rfl | rfl | rfl | rfl <;> rw [← hL] <;> decide
    have Hno := hid hno
    have HL := hid hL
    clear h1 h2 ho hb hrl hst hcl ht hL hno h5
    go_enter Try.func49, Try.ntmps49
    by_cases hn1 : n < 1
    · have Hr := hid (show tTick c n = c by
        unfold tTick
        rw [if_neg Hno.out, Hcl.out, Ht.out, HL.out, if_pos (by omega)]
        have : cl + min (max n 0) 1073741824 = c.out.clock := by rw [Hcl.out]; omega
        rw [this])
      rw [Hr.out]
      go_wp2_with (first | (go_at_call 66; refine HR.out.mono ?_; rintro e w' ⟨rfl, qd, rfl⟩) | fail)
      go_end0
      exact ⟨⟨_, rfl⟩, ⟨own, owe, gv, lt, vi, vo, _, H1.out.drewN qd, H2.out⟩, Below.frameF (below_drewN (Below.refl _ _) qd) F⟩
    have z1 : IntKind.i64.wrap (L - cl) = L - cl := IntWalk.i64_in _ (by omega)
    go_upto_region 3 with (first | (go_at_call 66; refine HR.out.mono ?_; rintro e w' ⟨rfl, qd, rfl⟩) | fail)
    go_cut [4] from 13 to 17 (fun s wx => s = .int .i64 L ∧ wx = w.drewN qd)
    case first =>
      have h6 : t = 0 ∧ L = 200 ∨ t = 1 ∧ L = 400 ∨ t = 2 ∧ L = 800 ∨ t = 3 ∧ L = 1600 ∨ t = 4 ∧ L = 3200 ∨ t = 5 ∧ L = 6400 := by
        have h6 : t = 0 ∨ t = 1 ∨ t = 2 ∨ t = 3 ∨ t = 4 ∨ t = 5 := by omega
        have := HL.out
        rcases h6 with rfl | rfl | rfl | rfl | rfl | rfl <;> simp at this <;> omega
      rcases h6 with ⟨rfl, rfl⟩ | ⟨rfl, rfl⟩ | ⟨rfl, rfl⟩ | ⟨rfl, rfl⟩ | ⟨rfl, rfl⟩ | ⟨rfl, rfl⟩
      all_goals
        clear z1
        go_wp2_with fail
        go_meet
        case rel => exact ⟨rfl, rfl⟩
    case rest =>
    obtain ⟨rfl, rfl⟩ := hcut
    have HRd := hid (H1.out.drewN qd)
    have HFd := hid (show Frame F w (w.drewN qd) from Below.frameF (below_drewN (Below.refl _ _) qd) F)
    by_cases hlt : n < L - cl
    · have Hr := hid (show tTick c n = { c with out := { c.out with clock := cl + n } } by
        unfold tTick
        rw [if_neg Hno.out, Hcl.out, Ht.out, HL.out, if_pos (by omega)]
        have : min (max n 0) 1073741824 = n := by omega
        rw [this])
      go_wp2_with fail
      go_end0
      rw [Hr.out]
      exact ⟨⟨_, rfl⟩, ⟨own, owe, gv, lt, vi, vo, _, HRd.out.set1 15 (.int .i64 (cl + n)), H2.out.early, H2.out.own, H2.out.owe, H2.out.gv, H2.out.len, H2.out.num⟩, HFd.out.trans (HRd.out.fset 15 _) (fun _ _ h => h)⟩
    · have hnl : ¬ cl + min (max n 0) 1073741824 < L := by omega
      have Hnl := hid hnl
      have HR2 := hid ((HRd.out.set1 15 (.int .i64 0)).set1 16 (.int .i64 (t + 1)))
      have HF2 := hid ((HFd.out.trans (HRd.out.fset 15 (.int .i64 0)) (fun _ _ h => h)).trans ((HRd.out.set1 15 (.int .i64 0)).fset 16 (.int .i64 (t + 1))) (fun _ _ h => h))
      by_cases h6 : t = 5
      · subst h6
        have Hr := hid (show tTick c n = { c with out := { c.out with clock := 0, tries := 6 }, state := 5, gave := true } by
          unfold tTick
          rw [if_neg Hno.out, Hcl.out, Ht.out, HL.out, if_neg Hnl.out, if_pos (by decide)]
          rfl)
        go_wp2_with fail
        go_end0
        rw [Hr.out]
        exact ⟨⟨_, rfl⟩, ⟨own, owe, true, lt, vi, vo, _, (HR2.out.set1 2 (.int .i64 5)).set1 20 (.bool true), H2.out.early, fun e => absurd (show (5 : Int) = 1 from e) (by decide), fun e => absurd rfl e, by show true = (true && !c.off); rw [hoff.out]; rfl, H2.out.len, H2.out.num⟩, (HF2.out.trans (HR2.out.fset 2 _) (fun _ _ h => h)).trans ((HR2.out.set1 2 (.int .i64 5)).fset 20 _) (fun _ _ h => h)⟩
      · have ht6 : ¬ (t + 1) ≥ 6 := by omega
        by_cases hs1 : st = 1
        · subst hs1
          have Hr := hid (show tTick c n = { c with out := { c.out with clock := 0, tries := t + 1 }, begin_ := true } by
            unfold tTick
            rw [if_neg Hno.out, Hcl.out, Ht.out, HL.out, if_neg Hnl.out, if_neg (by omega), if_pos Hst.out])
          go_wp2_with fail
          go_end0
          rw [Hr.out]
          exact ⟨⟨_, rfl⟩, ⟨true, owe, gv, lt, vi, vo, _, HR2.out.set1 17 (.bool true), H2.out.early, fun _ => rfl, H2.out.owe, H2.out.gv, H2.out.len, H2.out.num⟩, HF2.out.trans (HR2.out.fset 17 _) (fun _ _ h => h)⟩
        · have hs1b : (st == 1) = false := by simpa using hs1
          have Hr := hid (show tTick c n = { c with out := { c.out with clock := 0, tries := t + 1 }, again := true } by
            unfold tTick
            rw [if_neg Hno.out, Hcl.out, Ht.out, HL.out, if_neg Hnl.out, if_neg (by omega), if_neg (by rw [Hst.out]; exact hs1)])
          go_wp2_with fail
          go_end0
          rw [Hr.out]
          exact ⟨⟨_, rfl⟩, ⟨own, owe, gv, lt, vi, vo, _, HR2.out.set1 19 (.bool true), H2.out.early, fun e => absurd (Hst.out.symm.trans e) hs1, H2.out.owe, H2.out.gv, H2.out.len, H2.out.num⟩, HF2.out.trans (HR2.out.fset 19 _) (fun _ _ h => h)⟩
end Go.Proofs.Ytahlcjkcdgahkaa
