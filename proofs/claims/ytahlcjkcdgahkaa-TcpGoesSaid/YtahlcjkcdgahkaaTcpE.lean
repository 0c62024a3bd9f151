/- What is answered is taken away. -/
import Derived.Test.YtahlcjkcdgahkaaTcpC
import Derived.BigQuiet
import Derived.Deep.QuietTactic
namespace Go.Proofs.Ytahlcjkcdgahkaa
open Go Go.RowKit
attribute [local go_sem ↓] Go.wp_at_zero Go.wp_at_succ
set_option maxRecDepth 100000

def tTaken (o : TOut) (ack : Nat) : Nat := if tLess o.base ack then min ((ack + 4294967296 - o.base) % 4294967296) o.bytes.length else 0
def tAnswered (o : TOut) (ack : Nat) : TOut := { o with bytes := o.bytes.drop (tTaken o ack), base := (o.base + tTaken o ack) % 4294967296, u := ack, clock := 0, tries := 0 }
theorem cutT_from (A : Option Addr) (n cap : Nat) (lo : Int) (l k : Nat) (h1 : lo = l) (h2 : n = l + k) (h3 : n ≤ cap) (w : World) :
    (Instr.sliceAt 28 (.slice A n cap) (some (.int .i64 lo)) none none).run Try.prog w = .ok (.slice (cutA A cap l 1) k (cap - l)) w := by
  obtain ⟨i, hi, _, hs, _⟩ := info_parts u8info
  have := run_cut_from (P := Try.prog) (T := 28) Try.underlying28 hi A n cap .i64 lo l k h1 h2 h3 w
  rwa [hs] at this
def AnsPost (base g : Nat) (c : TConn) (m : Nat) (F : Nat → Prop) (ack : Nat) (w : World) (e : Ending) (w' : World) : Prop :=
  (∃ u, e = .returned u) ∧ ConnInv w' base g { c with out := tAnswered c.out ack } m F ∧ Frame F w w' ∧ w'.heap.size = w.heap.size
set_option maxHeartbeats 2000000 in
theorem answered_any (base g : Nat) (c : TConn) (m : Nat) (F : Nat → Prop) (ack : Nat) (ha : ack < 4294967296) (hbase : c.out.base < 4294967296) (hlen : c.out.bytes.length ≤ 1000000) (w : World) (h : ConnInv w base g c m F) :
    Calls Try.prog 38 #[.pointer (some ⟨g, 6, none⟩), .int .u32 (ack : Int)] w (AnsPost base g c m F ack w) := by
  obtain ⟨vr, gM, vb, f, h⟩ := h
  have H := hid h
  obtain ⟨n, hn⟩ : ∃ n, c.out.bytes.length = n := ⟨_, rfl⟩
  obtain ⟨A, cap, rfl⟩ : ∃ A c', vb = .slice A n c' := by rw [← hn]; obtain ⟨_, A, c', rfl, _⟩ := h.bytes.rowN; exact ⟨A, c', rfl⟩
  obtain ⟨b0, hb0⟩ : ∃ b, c.out.base = b := ⟨_, rfl⟩
  have c8 : w.cell? ⟨g, 8, none⟩ = some (.int .u32 (b0 : Int)) := by rw [← hb0]; exact h.tab.cell 8
  have c9 : w.cell? ⟨g, 9, none⟩ = some (.slice A n cap) := h.tab.cell 9
  have c6 : w.cell? ⟨g, 6, none⟩ = some (.int .u32 (c.out.u : Int)) := h.tab.cell 6
  have c12 : w.cell? ⟨g, 12, none⟩ = some (.int .i64 c.out.clock) := h.tab.cell 12
  have c13 : w.cell? ⟨g, 13, none⟩ = some (.int .i64 c.out.tries) := h.tab.cell 13
  have z6 := h.tab.frozen 6
  have z8 := h.tab.frozen 8
  have z9 := h.tab.frozen 9
  have z12 := h.tab.frozen 12
  have z13 := h.tab.frozen 13
  rw [hb0] at hbase
  have HL := hid (less_any b0 ack hbase ha w)
  have hcap : n ≤ cap := by obtain ⟨_, _, _, hv, h1, _⟩ := h.bytes.rowN; injection hv with _ _ e3; omega
  have Hn := hid hn
  have Hb0 := hid hb0
  cases hlt : tLess b0 ack with
  | false =>
    have Ht := hid (show tTaken c.out ack = 0 by unfold tTaken; rw [hb0, hlt]; rfl)
    rw [hlt] at HL
    clear h hn hb0 hlt
    go_enter Try.func38, Try.ntmps38
    go_wp2_with (go_at_call 20; refine HL.out.mono ?_; rintro e w' ⟨rfl, rfl⟩)
    go_end0
    have g1 := grown_set w' g 6 (.int .u32 (ack : Int))
    have g2 := grown_set (w'.setCell ⟨g, 6, none⟩ (.int .u32 (ack : Int))) g 12 (.int .i64 0)
    have g3 := grown_set ((w'.setCell ⟨g, 6, none⟩ (.int .u32 (ack : Int))).setCell ⟨g, 12, none⟩ (.int .i64 0)) g 13 (.int .i64 0)
    have gg := grown_trans (grown_trans g1 g2) g3
    have htab := ((H.out.tab.set_ 6 (.int .u32 (ack : Int))).set_ 12 (.int .i64 0)).set_ 13 (.int .i64 0)
    have e1 : tAnswered c.out ack = { c.out with u := ack, clock := 0, tries := 0 } := by
      unfold tAnswered
      rw [Ht.out, Hb0.out]
      have : (b0 + 0) % 4294967296 = c.out.base := by rw [Hb0.out]; omega
      rw [this]
      rfl
    unfold AnsPost
    rw [e1]
    refine ⟨⟨_, rfl⟩, ⟨vr, gM, .slice A n cap, f, htab, ownBs_store H.out.ready H.out.tab (by decide) gg, ?_, H.out.map.grownCells H.out.tab gg, H.out.early, H.out.fg, H.out.fM, H.out.fr, H.out.fb, fun k hk => ⟨(H.out.flt k hk).1, by simpa using (H.out.flt k hk).2⟩, H.out.ap⟩, frame_grown gg (fun k hk => by injection hk with hk; subst hk; exact H.out.fg), by simp⟩
    exact H.out.bytes.kept gg fun k hk e => by
      injection e with e
      subst e
      exact H.out.bytes.ne H.out.tab (by decide) hk
  | true =>
    obtain ⟨d, hd⟩ : ∃ d, (ack + 4294967296 - b0) % 4294967296 = d := ⟨_, rfl⟩
    obtain ⟨k, hk⟩ : ∃ k, min d n = k := ⟨_, rfl⟩
    have hdI : ((ack : Int) - (b0 : Int)) % 4294967296 = (d : Int) := by omega
    have Ht := hid (show tTaken c.out ack = k by unfold tTaken; rw [hb0, hlt, hn, hd, hk]; rfl)
    have Hk := hid hk
    have Hkn := hid (show k ≤ n by omega)
    have Hd := hid (show d < 4294967296 by omega)
    have HdI := hid hdI
    rw [hlt] at HL
    clear h hn hb0 hlt hd hk hdI
    go_enter Try.func38, Try.ntmps38
    go_upto_region 1 with (go_at_call 20; refine HL.out.mono ?_; rintro e w' ⟨rfl, rfl⟩)
    go_cut [4] from 11 to 24 (fun s wx => s = .int .i64 (k : Int) ∧ ∃ q, wx = w'.drewN q)
    case first =>
      have hdI := HdI.out
      by_cases hdn : d ≤ n
      · have h1 : (d : Int) ≤ (n : Int) := by omega
        have hk : k = d := by have := Hk.out; omega
        subst hk
        go_quiet (fail)
        go_wp2_with fail
        go_meet
        case rel => exact ⟨rfl, nq, rfl⟩
      · have h1 : ¬ (d : Int) ≤ (n : Int) := by omega
        have h2 : (n : Int) < (d : Int) := by omega
        have hk : k = n := by have := Hk.out; omega
        subst hk
        go_quiet (fail)
        go_wp2_with fail
        go_meet
        case rel => exact ⟨rfl, nq, rfl⟩
    case rest =>
    obtain ⟨rfl, q, rfl⟩ := hcut
    have cut1 := cutT_from A n cap (k : Int) k (n - k) rfl (by have := Hkn.out; omega) hcap
    have Hq := hid (H.out.same (below_drewN (Below.refl _ _) q))
    have hfr := Below.frameF (below_drewN (Below.refl w'.heap.size w') q) F
    have hsz0 : (w'.drewN q).heap.size = w'.heap.size := rfl
    have Hsz0 := hid hsz0
    have Hfr := hid hfr
    have c9 : (w'.drewN q).cell? ⟨g, 9, none⟩ = some (.slice A n cap) := Hq.out.tab.cell 9
    have c8 : (w'.drewN q).cell? ⟨g, 8, none⟩ = some (.int .u32 (b0 : Int)) := by rw [← Hb0.out]; exact Hq.out.tab.cell 8
    have c6 : (w'.drewN q).cell? ⟨g, 6, none⟩ = some (.int .u32 (c.out.u : Int)) := Hq.out.tab.cell 6
    have c12 : (w'.drewN q).cell? ⟨g, 12, none⟩ = some (.int .i64 c.out.clock) := Hq.out.tab.cell 12
    have c13 : (w'.drewN q).cell? ⟨g, 13, none⟩ = some (.int .i64 c.out.tries) := Hq.out.tab.cell 13
    have z6 := Hq.out.tab.frozen 6
    have z8 := Hq.out.tab.frozen 8
    have z9 := Hq.out.tab.frozen 9
    have z12 := Hq.out.tab.frozen 12
    have z13 := Hq.out.tab.frozen 13
    have hk32 : (k : Int) % 4294967296 = (k : Int) := by have := Hk.out; have := Hd.out; omega
    obtain ⟨b1, hb1⟩ : ∃ b1, (b0 + k) % 4294967296 = b1 := ⟨_, rfl⟩
    have hkb : ((b0 : Int) + (k : Int)) % 4294967296 = (b1 : Int) := by omega
    have Hb1 := hid hb1
    clear hb1
    clear hsz0 hfr
    generalize w'.drewN q = wy at *
    go_step
    go_wp2_with fail
    go_end0
    have g1 := grown_set wy g 9 (.slice (cutA A cap k 1) (n - k) (cap - k))
    have g2 := grown_set (wy.setCell ⟨g, 9, none⟩ (.slice (cutA A cap k 1) (n - k) (cap - k))) g 8 (.int .u32 (b1 : Int))
    have g3 := grown_set ((wy.setCell ⟨g, 9, none⟩ (.slice (cutA A cap k 1) (n - k) (cap - k))).setCell ⟨g, 8, none⟩ (.int .u32 (b1 : Int))) g 6 (.int .u32 (ack : Int))
    have g4 := grown_set (((wy.setCell ⟨g, 9, none⟩ (.slice (cutA A cap k 1) (n - k) (cap - k))).setCell ⟨g, 8, none⟩ (.int .u32 (b1 : Int))).setCell ⟨g, 6, none⟩ (.int .u32 (ack : Int))) g 12 (.int .i64 0)
    have g5 := grown_set ((((wy.setCell ⟨g, 9, none⟩ (.slice (cutA A cap k 1) (n - k) (cap - k))).setCell ⟨g, 8, none⟩ (.int .u32 (b1 : Int))).setCell ⟨g, 6, none⟩ (.int .u32 (ack : Int))).setCell ⟨g, 12, none⟩ (.int .i64 0)) g 13 (.int .i64 0)
    have gg := grown_trans (grown_trans (grown_trans (grown_trans g1 g2) g3) g4) g5
    have htab := ((((Hq.out.tab.set_ 9 (.slice (cutA A cap k 1) (n - k) (cap - k))).set_ 8 (.int .u32 (b1 : Int))).set_ 6 (.int .u32 (ack : Int))).set_ 12 (.int .i64 0)).set_ 13 (.int .i64 0)
    have e1 : tAnswered c.out ack = { c.out with bytes := c.out.bytes.drop k, base := b1, u := ack, clock := 0, tries := 0 } := by
      unfold tAnswered
      rw [Ht.out, Hb0.out, Hb1.out]
    have hrow := Hq.out.bytes
    rw [Hn.out] at hrow
    have hrow := hrow.from_ (l := k) Hkn.out
    unfold AnsPost
    rw [e1]
    have hcut : ∀ i, (Value.slice (cutA A cap k 1) (n - k) (cap - k)).ownBlock = some i → (Value.slice A n cap).ownBlock = some i := by
      intro i hi
      unfold cutA at hi
      split at hi
      · cases A <;> exact hi
      · cases A with
        | none => exact hi
        | some a =>
          have e : (a.add (k * 1)).block = a.block := by unfold Addr.add; split <;> rfl
          have h2 : some (a.add (k * 1)).block = some i := hi
          rw [e] at h2
          exact h2
    refine ⟨⟨_, rfl⟩, ⟨vr, gM, (.slice (cutA A cap k 1) (n - k) (cap - k)), f, htab, ownBs_store Hq.out.ready Hq.out.tab (by decide) gg, ?_, Hq.out.map.grownCells Hq.out.tab gg, H.out.early, H.out.fg, H.out.fM, H.out.fr, fun i hi => H.out.fb i (hcut i hi), fun i hi => ⟨(H.out.flt i hi).1, by have := (Hq.out.flt i hi).2; simpa using this⟩, fun i hi e => H.out.ap i hi (hcut i e)⟩, Hfr.out.trans (frame_grown (F := F) gg (fun i hi => by injection hi with hi; subst hi; exact H.out.fg)) (fun _ _ q => q), by simpa using Hsz0.out⟩
    have hl : (c.out.bytes.drop k).length = n - k := by rw [List.length_drop, Hn.out]
    show RowAtS _ _ _ _ _ (c.out.bytes.drop k).length ((c.out.bytes.drop k).map u8v)
    rw [hl, List.map_drop]
    rw [Nat.mul_one] at hrow
    exact hrow.kept gg fun i hi e => by
      injection e with e
      subst e
      exact hrow.ne Hq.out.tab (by decide) hi
end Go.Proofs.Ytahlcjkcdgahkaa
