/- The document's answered. -/
import Derived.Test.YtahlcjkcdgahkaaRcC
import Derived.BigRegion
namespace Go.Proofs.Ytahlcjkcdgahkaa
open Go Go.RowKit
attribute [local go_sem ↓] Go.wp_at_zero Go.wp_at_succ
set_option maxRecDepth 100000

theorem ownB_cut (A : Option Addr) (n cap k : Nat) : ∀ z, (Value.slice (cutA A cap k 1) (n - k) (cap - k)).ownBlock = some z → (Value.slice A n cap).ownBlock = some z := by
  intro z hz
  unfold cutA at hz
  split at hz
  · cases A with
    | none => exact hz
    | some a => exact hz
  · cases A with
    | none => exact hz
    | some a =>
      simp only [Option.map_some, Value.ownBlock] at hz ⊢
      unfold Addr.add at hz
      split at hz <;> simpa using hz
def tAns (c : TConn) (ack : Nat) : TConn :=
  if c.state = 4 ∧ ack = c.out.n then { c with out := tAnswered c.out ack, again := false, state := 5, off := true } else { c with out := tAnswered c.out ack, again := false }
set_option maxHeartbeats 4000000 in
theorem ranswered_conn (base g : Nat) (c : TConn) (q : Nat) (F : Nat → Prop) (ack : Nat) (w : World) (h : RConn w base g c q F) (ho : OutOk c) (ha : ack < 4294967296) (hd : min (mSub ack c.out.u) c.out.bytes.length = tTaken c.out ack) (hgv : c.gave = false) :
    Calls Try.prog 64 #[.pointer (some ⟨g, 0, none⟩), .int .u32 (ack : Int)] w (RPost base g (tAns c ack) q F w) := by
  obtain ⟨own, owe, gv, lt, vi, vo, vs, h1, h2⟩ := h
  have H1 := hid h1
  have H2 := hid h2
  have Hgv := hid hgv
  obtain ⟨len, hlen⟩ : ∃ l, c.out.bytes.length = l := ⟨_, rfl⟩
  obtain ⟨A, cap, rfl, hcap1, hcap3⟩ : ∃ A c2, vs = .slice A len c2 ∧ len ≤ c2 ∧ c2 ≤ 9223372036854775807 := by rw [← hlen]; obtain ⟨_, A, c2, rfl, h1, h2, _⟩ := h1.snt.rowN; exact ⟨A, c2, rfl, h1, by simp only [maxLen] at h2; omega⟩
  obtain ⟨d, hdd⟩ : ∃ d, mSub ack c.out.u = d := ⟨_, rfl⟩
  obtain ⟨u, huu⟩ : ∃ d, c.out.u = d := ⟨_, rfl⟩
  obtain ⟨n, hnn⟩ : ∃ d, c.out.n = d := ⟨_, rfl⟩
  obtain ⟨st, hst⟩ : ∃ d, c.state = d := ⟨_, rfl⟩
  obtain ⟨k, hk⟩ : ∃ d, tTaken c.out ack = d := ⟨_, rfl⟩
  rw [hdd, hlen, hk] at hd
  have hu := ho.u
  rw [huu] at hu hdd
  have hn := ho.n
  rw [hnn] at hn
  have h3 : ((ack : Int) - (u : Int)) % 4294967296 = (d : Int) := by rw [← hdd]; unfold mSub; omega
  have hdl : d < 4294967296 := by rw [← hdd]; exact mSub_lt _ _
  have hll : len ≤ 65536 := by rw [← hlen]; exact ho.len
  have c2 : w.cell? ⟨g, 2, none⟩ = some (.int .i64 st) := by rw [← hst]; exact h1.tab.cell 2
  have c4 : w.cell? ⟨g, 4, none⟩ = some (.int .u32 (u : Int)) := by rw [← huu]; exact h1.tab.cell 4
  have c5 : w.cell? ⟨g, 5, none⟩ = some (.int .u32 (n : Int)) := by rw [← hnn]; exact h1.tab.cell 5
  have c10 : w.cell? ⟨g, 10, none⟩ = some (.slice A len cap) := h1.tab.cell 10
  have c15 : w.cell? ⟨g, 15, none⟩ = some (.int .i64 c.out.clock) := h1.tab.cell 15
  have c16 : w.cell? ⟨g, 16, none⟩ = some (.int .i64 c.out.tries) := h1.tab.cell 16
  have c19 : w.cell? ⟨g, 19, none⟩ = some (.bool c.again) := h1.tab.cell 19
  have z2 := h1.tab.frozen 2
  have z4 := h1.tab.frozen 4
  have z10 := h1.tab.frozen 10
  have z15 := h1.tab.frozen 15
  have z16 := h1.tab.frozen 16
  have z19 := h1.tab.frozen 19
  have hkl : k ≤ len := by omega
  have Hk := hid hk
  have Hst := hid hst
  have Hnn := hid hnn
  have Hd := hid hd
  have Hlen := hid hlen
  have Hhd := hid hd
  clear h1 h2 ho hdd huu hnn hst hk hlen hd hgv
  have H10 := hid (show ∀ u, Frame F w (w.setCell ⟨g, 10, none⟩ u) from fun u => H1.out.fset 10 u)
  go_enter Try.func64, Try.ntmps64
  go_upto_region 1 with fail
  rw [h3]
  clear h3
  go_cut [] from 12 to 26 (fun wx => wx = (w.setCell ⟨g, 10, none⟩ (.slice (cutA A cap k 1) (len - k) (cap - k))).drew)
  case first =>
    by_cases hlt : len < d
    · obtain rfl : k = len := by have := Hhd.out; omega
      have hltI : (k : Int) < (d : Int) := by omega
      have hcut := fun wx => cutT_from A k cap (k : Int) k (k - k) rfl (by omega) hcap1 wx
      have hsz := Nat.sub_self k
      go_region
      all_goals
        go_wp2_with fail
        go_meet
        case rel => rw [Nat.sub_self]
    · obtain rfl : k = d := by have := Hhd.out; omega
      have hltI : ¬ (len : Int) < (k : Int) := by omega
      have hcut := fun wx => cutT_from A len cap (k : Int) k (len - k) rfl (by omega) hcap1 wx
      go_region
      all_goals
        go_wp2_with fail
        go_meet
        case rel => rfl
  case rest =>
  subst hcut
  have hs10 : RcAt (w.setCell ⟨g, 10, none⟩ (.slice (cutA A cap k 1) (len - k) (cap - k))) base g ((rcCells c own owe gv vi vo (.slice A len cap)).set 10 (.slice (cutA A cap k 1) (len - k) (cap - k))) vi vo (.slice (cutA A cap k 1) (len - k) (cap - k)) c.inn.ready lt (c.out.bytes.drop k) F := by
    have hq := H1.out.set1 10 (.slice (cutA A cap k 1) (len - k) (cap - k))
    have hsn := hq.snt
    rw [Hlen.out] at hsn
    have hfr := hsn.from_ (l := k) hkl
    have hob := ownB_cut A len cap k
    refine ⟨hq.tab, hq.inn, hq.out, ?_, fun z hz e => hq.ap z hz (hob z e), hq.fg, hq.fi, hq.fo, fun z hz => hq.fs z (hob z hz), hq.flt⟩
    rw [List.length_drop, Hlen.out, List.map_drop]
    rw [Nat.mul_one] at hfr
    exact hfr
  have H3 := hid (hs10.keep (below_drew _))
  have F3 := hid ((H10.out (.slice (cutA A cap k 1) (len - k) (cap - k))).trans (Below.frameF (below_drew _) F) (fun _ _ h => h))
  clear hs10 H10 c10 z10
  generalize (w.setCell ⟨g, 10, none⟩ (.slice (cutA A cap k 1) (len - k) (cap - k))).drew = w3 at *
  clear c2 c4 c5 c15 c16 c19 z2 z4 z15 z16 z19
  have c2 : w3.cell? ⟨g, 2, none⟩ = some (.int .i64 st) := by rw [← Hst.out]; exact H3.out.tab.cell 2
  have c4 : w3.cell? ⟨g, 4, none⟩ = some (.int .u32 (c.out.u : Int)) := H3.out.tab.cell 4
  have c5 : w3.cell? ⟨g, 5, none⟩ = some (.int .u32 (n : Int)) := by rw [← Hnn.out]; exact H3.out.tab.cell 5
  have c15 : w3.cell? ⟨g, 15, none⟩ = some (.int .i64 c.out.clock) := H3.out.tab.cell 15
  have c16 : w3.cell? ⟨g, 16, none⟩ = some (.int .i64 c.out.tries) := H3.out.tab.cell 16
  have c19 : w3.cell? ⟨g, 19, none⟩ = some (.bool c.again) := H3.out.tab.cell 19
  have z2 := H3.out.tab.frozen 2
  have z4 := H3.out.tab.frozen 4
  have z15 := H3.out.tab.frozen 15
  have z16 := H3.out.tab.frozen 16
  have z19 := H3.out.tab.frozen 19
  have H4 := hid ((((H3.out.set1 4 (.int .u32 (ack : Int))).set1 15 (.int .i64 0)).set1 16 (.int .i64 0)).set1 19 (.bool false))
  have F4 := hid (((((F3.out.trans (H3.out.fset 4 (.int .u32 (ack : Int))) (fun _ _ h => h)).trans ((H3.out.set1 4 (.int .u32 (ack : Int))).fset 15 (.int .i64 0)) (fun _ _ h => h)).trans (((H3.out.set1 4 (.int .u32 (ack : Int))).set1 15 (.int .i64 0)).fset 16 (.int .i64 0)) (fun _ _ h => h)).trans ((((H3.out.set1 4 (.int .u32 (ack : Int))).set1 15 (.int .i64 0)).set1 16 (.int .i64 0)).fset 19 (.bool false)) (fun _ _ h => h)))
  clear H3 F3
  go_upto_region 6 with fail
  generalize (((w3.setCell ⟨g, 4, none⟩ (.int .u32 (ack : Int))).setCell ⟨g, 15, none⟩ (.int .i64 0)).setCell ⟨g, 16, none⟩ (.int .i64 0)).setCell ⟨g, 19, none⟩ (.bool false) = w4 at *
  clear c2 c4 c5 c15 c16 c19 z2 z4 z15 z16 z19
  have c2 : w4.cell? ⟨g, 2, none⟩ = some (.int .i64 st) := by rw [← Hst.out]; exact H4.out.tab.cell 2
  have c4 : w4.cell? ⟨g, 4, none⟩ = some (.int .u32 (ack : Int)) := H4.out.tab.cell 4
  have c5 : w4.cell? ⟨g, 5, none⟩ = some (.int .u32 (n : Int)) := by rw [← Hnn.out]; exact H4.out.tab.cell 5
  have z2 := H4.out.tab.frozen 2
  have HA := hid (show RConn w4 base g { c with out := tAnswered c.out ack, again := false } q F from
    ⟨own, owe, gv, lt, vi, vo, _, by
      have h := H4.out
      unfold tAnswered
      rw [Hk.out]
      exact h, H2.out.early, H2.out.own, H2.out.owe, H2.out.gv, H2.out.len, H2.out.num⟩)
  by_cases h4 : st = 4 ∧ ack = n
  · obtain ⟨rfl, rfl⟩ := h4
    have Hr := hid (show tAns c ack = { c with out := tAnswered c.out ack, again := false, state := 5, off := true } by unfold tAns; rw [if_pos ⟨Hst.out, Hnn.out.symm⟩])
    go_quiet (fail)
    have HA2 := hid (H4.out.drewN nq)
    have HC := hid (HA2.out.set1 2 (.int .i64 5))
    clear H4
    go_wp2_with fail
    go_end0
    rw [Hr.out]
    refine ⟨⟨_, rfl⟩, ⟨own, owe, gv, lt, vi, vo, (.slice (cutA A cap k 1) (len - k) (cap - k)), ?_, H2.out.early, fun e => absurd (show (5 : Int) = 1 from e) (by decide), fun e => absurd rfl e, by rw [H2.out.gv, Hgv.out]; rfl, H2.out.len, H2.out.num⟩, F4.out.trans ((Below.frameF (below_drewN (Below.refl _ _) nq) F).trans (HA2.out.fset 2 (.int .i64 5)) (fun _ _ h => h)) (fun _ _ h => h)⟩
    have h := HC.out
    unfold tAnswered
    rw [Hk.out]
    exact h
  · have Hr := hid (show tAns c ack = { c with out := tAnswered c.out ack, again := false } by unfold tAns; rw [if_neg (fun e => h4 ⟨Hst.out.symm.trans e.1, e.2.trans Hnn.out⟩)])
    have hcs : (st == 4) = false ∨ (st == 4) = true ∧ ((ack : Int) == (n : Int)) = false := by
      by_cases e : st = 4
      · right; refine ⟨by simp [e], ?_⟩; simp; omega
      · left; simpa using e
    clear H4 h4
    rcases hcs with hc | ⟨hc, hc2⟩
    all_goals
      go_quiet (fail)
      go_wp2_with fail
      go_end0
      rw [Hr.out]
      exact ⟨⟨_, rfl⟩, HA.out.keep (below_drewN (Below.refl _ _) nq), F4.out.trans (Below.frameF (below_drewN (Below.refl _ _) nq) F) (fun _ _ h => h)⟩
end Go.Proofs.Ytahlcjkcdgahkaa
