/- What each call of a connection does, on plain data. No program is walked here. -/
import Derived.Test.YtahlcjkcdgahkaaTcpC
import Derived.BigQuiet
import Derived.Deep.QuietTactic
import Derived.Test.YtahlcjkcdgahkaaTcpD
namespace Go.Proofs.Ytahlcjkcdgahkaa
section
open Go Go.RowKit
attribute [local go_sem ↓] Go.wp_at_zero Go.wp_at_succ
set_option maxRecDepth 100000

def tTaken (o : TOut) (ack : Nat) : Nat := if tLess o.base ack then min ((ack + 4294967296 - o.base) % 4294967296) o.bytes.length else 0
def tAnswered (o : TOut) (ack : Nat) : TOut := { o with bytes := o.bytes.drop (tTaken o ack), base := (o.base + tTaken o ack) % 4294967296, u := ack, clock := 0, tries := 0 }
theorem cutT_from (A : Option Addr) (n cap : Nat) (lo : Int) (l k : Nat) (h1 : lo = l) (h2 : n = l + k) (h3 : n ≤ cap) (w : World) :
    (Instr.sliceAt 28 (.slice A n cap) (some (.int .i64 lo)) none none).run Try.prog w = .ok (.slice (cutA A cap l 1) k (cap - l)) w := by
  obtain ⟨i, hi, _, hs, _⟩ := info_parts u8info
  have := run_cut_from (P := Try.prog) (T := 28) Try.underlying28 hi A n cap .i64 lo l k h1 h2 h3 w
  rwa [hs] at this
def AnsPost (base g : Nat) (c : TConn) (m : Nat) (F : Nat → Prop) (ack : Nat) (w : World) (e : Ending) (w' : World) : Prop :=
  (∃ u, e = .returned u) ∧ ConnInv w' base g { c with out := tAnswered c.out ack } m F ∧ Frame F w w' ∧ w'.heap.size = w.heap.size
set_option maxHeartbeats 2000000 in
theorem answered_any (base g : Nat) (c : TConn) (m : Nat) (F : Nat → Prop) (ack : Nat) (ha : ack < 4294967296) (hbase : c.out.base < 4294967296) (hlen : c.out.bytes.length ≤ 1000000) (w : World) (h : ConnInv w base g c m F) :
    Calls Try.prog 38 #[.pointer (some ⟨g, 6, none⟩), .int .u32 (ack : Int)] w (AnsPost base g c m F ack w) := by
  obtain ⟨vr, gM, vb, f, h⟩ := h
  have H := hid h
  obtain ⟨n, hn⟩ : ∃ n, c.out.bytes.length = n := ⟨_, rfl⟩
  obtain ⟨A, cap, rfl⟩ : ∃ A c', vb = .slice A n c' := by rw [← hn]; obtain ⟨_, A, c', rfl, _⟩ := h.bytes.rowN; exact ⟨A, c', rfl⟩
  obtain ⟨b0, hb0⟩ : ∃ b, c.out.base = b := ⟨_, rfl⟩
  have c8 : w.cell? ⟨g, 8, none⟩ = some (.int .u32 (b0 : Int)) := by rw [← hb0]; exact h.tab.cell 8
  have c9 : w.cell? ⟨g, 9, none⟩ = some (.slice A n cap) := h.tab.cell 9
  have c6 : w.cell? ⟨g, 6, none⟩ = some (.int .u32 (c.out.u : Int)) := h.tab.cell 6
  have c12 : w.cell? ⟨g, 12, none⟩ = some (.int .i64 c.out.clock) := h.tab.cell 12
  have c13 : w.cell? ⟨g, 13, none⟩ = some (.int .i64 c.out.tries) := h.tab.cell 13
  have z6 := h.tab.frozen 6
  have z8 := h.tab.frozen 8
  have z9 := h.tab.frozen 9
  have z12 := h.tab.frozen 12
  have z13 := h.tab.frozen 13
  rw [hb0] at hbase
  have HL := hid (less_any b0 ack hbase ha w)
  have hcap : n ≤ cap := by obtain ⟨_, _, _, hv, h1, _⟩ := h.bytes.rowN; injection hv with _ _ e3; omega
  have Hn := hid hn
  have Hb0 := hid hb0
  cases hlt : tLess b0 ack with
  | false =>
    have Ht := hid (show tTaken c.out ack = 0 by unfold tTaken; rw [hb0, hlt]; rfl)
    rw [hlt] at HL
    clear h hn hb0 hlt
    go_enter Try.func38, Try.ntmps38
    go_wp2_with (go_at_call 20; refine HL.out.mono ?_; rintro e w' ⟨rfl, rfl⟩)
    go_end0
    have g1 := grown_set w' g 6 (.int .u32 (ack : Int))
    have g2 := grown_set (w'.setCell ⟨g, 6, none⟩ (.int .u32 (ack : Int))) g 12 (.int .i64 0)
    have g3 := grown_set ((w'.setCell ⟨g, 6, none⟩ (.int .u32 (ack : Int))).setCell ⟨g, 12, none⟩ (.int .i64 0)) g 13 (.int .i64 0)
    have gg := grown_trans (grown_trans g1 g2) g3
    have htab := ((H.out.tab.set_ 6 (.int .u32 (ack : Int))).set_ 12 (.int .i64 0)).set_ 13 (.int .i64 0)
    have e1 : tAnswered c.out ack = { c.out with u := ack, clock := 0, tries := 0 } := by
      unfold tAnswered
      rw [Ht.out, Hb0.out]
      have : (b0 + 0) % 4294967296 = c.out.base := by rw [Hb0.out]; omega
      rw [this]
      rfl
    unfold AnsPost
    rw [e1]
    refine ⟨⟨_, rfl⟩, ⟨vr, gM, .slice A n cap, f, htab, ownBs_store H.out.ready H.out.tab (by decide) gg, ?_, H.out.map.grownCells H.out.tab gg, H.out.early, H.out.fg, H.out.fM, H.out.fr, H.out.fb, fun k hk => ⟨(H.out.flt k hk).1, by simpa using (H.out.flt k hk).2⟩, H.out.ap⟩, frame_grown gg (fun k hk => by injection hk with hk; subst hk; exact H.out.fg), by simp⟩
    exact H.out.bytes.kept gg fun k hk e => by
      injection e with e
      subst e
      exact H.out.bytes.ne H.out.tab (by decide) hk
  | true =>
    obtain ⟨d, hd⟩ : ∃ d, (ack + 4294967296 - b0) % 4294967296 = d := ⟨_, rfl⟩
    obtain ⟨k, hk⟩ : ∃ k, min d n = k := ⟨_, rfl⟩
    have hdI : ((ack : Int) - (b0 : Int)) % 4294967296 = (d : Int) := by omega
    have Ht := hid (show tTaken c.out ack = k by unfold tTaken; rw [hb0, hlt, hn, hd, hk]; rfl)
    have Hk := hid hk
    have Hkn := hid (show k ≤ n by omega)
    have Hd := hid (show d < 4294967296 by omega)
    have HdI := hid hdI
    rw [hlt] at HL
    clear h hn hb0 hlt hd hk hdI
    go_enter Try.func38, Try.ntmps38
    go_upto_region 1 with (go_at_call 20; refine HL.out.mono ?_; rintro e w' ⟨rfl, rfl⟩)
    go_cut [4] from 11 to 24 (fun s wx => s = .int .i64 (k : Int) ∧ ∃ q, wx = w'.drewN q)
    case first =>
      have hdI := HdI.out
      by_cases hdn : d ≤ n
      · have h1 : (d : Int) ≤ (n : Int) := by omega
        have hk : k = d := by have := Hk.out; omega
        subst hk
        go_quiet (fail)
        go_wp2_with fail
        go_meet
        case rel => exact ⟨rfl, nq, rfl⟩
      · have h1 : ¬ (d : Int) ≤ (n : Int) := by omega
        have h2 : (n : Int) < (d : Int) := by omega
        have hk : k = n := by have := Hk.out; omega
        subst hk
        go_quiet (fail)
        go_wp2_with fail
        go_meet
        case rel => exact ⟨rfl, nq, rfl⟩
    case rest =>
    obtain ⟨rfl, q, rfl⟩ := hcut
    have cut1 := cutT_from A n cap (k : Int) k (n - k) rfl (by have := Hkn.out; omega) hcap
    have Hq := hid (H.out.same (below_drewN (Below.refl _ _) q))
    have hfr := Below.frameF (below_drewN (Below.refl w'.heap.size w') q) F
    have hsz0 : (w'.drewN q).heap.size = w'.heap.size := rfl
    have Hsz0 := hid hsz0
    have Hfr := hid hfr
    have c9 : (w'.drewN q).cell? ⟨g, 9, none⟩ = some (.slice A n cap) := Hq.out.tab.cell 9
    have c8 : (w'.drewN q).cell? ⟨g, 8, none⟩ = some (.int .u32 (b0 : Int)) := by rw [← Hb0.out]; exact Hq.out.tab.cell 8
    have c6 : (w'.drewN q).cell? ⟨g, 6, none⟩ = some (.int .u32 (c.out.u : Int)) := Hq.out.tab.cell 6
    have c12 : (w'.drewN q).cell? ⟨g, 12, none⟩ = some (.int .i64 c.out.clock) := Hq.out.tab.cell 12
    have c13 : (w'.drewN q).cell? ⟨g, 13, none⟩ = some (.int .i64 c.out.tries) := Hq.out.tab.cell 13
    have z6 := Hq.out.tab.frozen 6
    have z8 := Hq.out.tab.frozen 8
    have z9 := Hq.out.tab.frozen 9
    have z12 := Hq.out.tab.frozen 12
    have z13 := Hq.out.tab.frozen 13
    have hk32 : (k : Int) % 4294967296 = (k : Int) := by have := Hk.out; have := Hd.out; omega
    obtain ⟨b1, hb1⟩ : ∃ b1, (b0 + k) % 4294967296 = b1 := ⟨_, rfl⟩
    have hkb : ((b0 : Int) + (k : Int)) % 4294967296 = (b1 : Int) := by omega
    have Hb1 := hid hb1
    clear hb1
    clear hsz0 hfr
    generalize w'.drewN q = wy at *
    go_step
    go_wp2_with fail
    go_end0
    have g1 := grown_set wy g 9 (.slice (cutA A cap k 1) (n - k) (cap - k))
    have g2 := grown_set (wy.setCell ⟨g, 9, none⟩ (.slice (cutA A cap k 1) (n - k) (cap - k))) g 8 (.int .u32 (b1 : Int))
    have g3 := grown_set ((wy.setCell ⟨g, 9, none⟩ (.slice (cutA A cap k 1) (n - k) (cap - k))).setCell ⟨g, 8, none⟩ (.int .u32 (b1 : Int))) g 6 (.int .u32 (ack : Int))
    have g4 := grown_set (((wy.setCell ⟨g, 9, none⟩ (.slice (cutA A cap k 1) (n - k) (cap - k))).setCell ⟨g, 8, none⟩ (.int .u32 (b1 : Int))).setCell ⟨g, 6, none⟩ (.int .u32 (ack : Int))) g 12 (.int .i64 0)
    have g5 := grown_set ((((wy.setCell ⟨g, 9, none⟩ (.slice (cutA A cap k 1) (n - k) (cap - k))).setCell ⟨g, 8, none⟩ (.int .u32 (b1 : Int))).setCell ⟨g, 6, none⟩ (.int .u32 (ack : Int))).setCell ⟨g, 12, none⟩ (.int .i64 0)) g 13 (.int .i64 0)
    have gg := grown_trans (grown_trans (grown_trans (grown_trans g1 g2) g3) g4) g5
    have htab := ((((Hq.out.tab.set_ 9 (.slice (cutA A cap k 1) (n - k) (cap - k))).set_ 8 (.int .u32 (b1 : Int))).set_ 6 (.int .u32 (ack : Int))).set_ 12 (.int .i64 0)).set_ 13 (.int .i64 0)
    have e1 : tAnswered c.out ack = { c.out with bytes := c.out.bytes.drop k, base := b1, u := ack, clock := 0, tries := 0 } := by
      unfold tAnswered
      rw [Ht.out, Hb0.out, Hb1.out]
    have hrow := Hq.out.bytes
    rw [Hn.out] at hrow
    have hrow := hrow.from_ (l := k) Hkn.out
    unfold AnsPost
    rw [e1]
    have hcut : ∀ i, (Value.slice (cutA A cap k 1) (n - k) (cap - k)).ownBlock = some i → (Value.slice A n cap).ownBlock = some i := by
      intro i hi
      unfold cutA at hi
      split at hi
      · cases A <;> exact hi
      · cases A with
        | none => exact hi
        | some a =>
          have e : (a.add (k * 1)).block = a.block := by unfold Addr.add; split <;> rfl
          have h2 : some (a.add (k * 1)).block = some i := hi
          rw [e] at h2
          exact h2
    refine ⟨⟨_, rfl⟩, ⟨vr, gM, (.slice (cutA A cap k 1) (n - k) (cap - k)), f, htab, ownBs_store Hq.out.ready Hq.out.tab (by decide) gg, ?_, Hq.out.map.grownCells Hq.out.tab gg, H.out.early, H.out.fg, H.out.fM, H.out.fr, fun i hi => H.out.fb i (hcut i hi), fun i hi => ⟨(H.out.flt i hi).1, by have := (Hq.out.flt i hi).2; simpa using this⟩, fun i hi e => H.out.ap i hi (hcut i e)⟩, Hfr.out.trans (frame_grown (F := F) gg (fun i hi => by injection hi with hi; subst hi; exact H.out.fg)) (fun _ _ q => q), by simpa using Hsz0.out⟩
    have hl : (c.out.bytes.drop k).length = n - k := by rw [List.length_drop, Hn.out]
    show RowAtS _ _ _ _ _ (c.out.bytes.drop k).length ((c.out.bytes.drop k).map u8v)
    rw [hl, List.map_drop]
    rw [Nat.mul_one] at hrow
    exact hrow.kept gg fun i hi e => by
      injection e with e
      subst e
      exact hrow.ne Hq.out.tab (by decide) hi
end
section
open Go Go.RowKit

/-- does a flag stand? -/
def tBit (fl b : Int) : Bool := bits .and .i64 fl b != 0
def m32 (n : Nat) : Nat := n % 4294967296
/-- a less b on the ring -/
def mSub (a b : Nat) : Nat := (a + 4294967296 - b) % 4294967296
def TIn.q (i : TIn) : Nat := 16384 - i.ready.length
def tNote (i : TIn) (s : TSeg) : TIn :=
  if tBit s.flags 1 = true ∧ i.told = false ∧ mSub ((s.seq + s.data.length) % 4294967296) i.r ≤ i.q then
    { i with early := earlyPut i.early i.r i.q s.seq s.data 0, told := true, fin := (s.seq + s.data.length) % 4294967296 }
  else { i with early := earlyPut i.early i.r i.q s.seq s.data 0 }
def tFlowN : Nat → TIn → TIn
  | 0, i => i
  | k + 1, i =>
    if i.done = true then i
    else if i.told = true ∧ i.fin = i.r then { i with done := true, r := (i.r + 1) % 4294967296, early := fun _ => none }
    else match i.early i.r with
      | none => i
      | some b => tFlowN k { i with early := fun x => if x = i.r then none else i.early x, ready := i.ready ++ [b], r := (i.r + 1) % 4294967296 }
def tFlow (i : TIn) : TIn := tFlowN (i.q + 1) i
/-- what came early lies in the window ahead -/
structure InOk (i : TIn) : Prop where
  len : i.ready.length ≤ 16384
  r : i.r < 4294967296
  fin : i.fin < 4294967296
  early : ∀ k, k < 4294967296 → i.early k ≠ none → mSub k i.r < i.q
theorem mSub_lt (a b : Nat) : mSub a b < 4294967296 := Nat.mod_lt _ (by decide)
theorem mSub_self (a : Nat) : mSub a a = 0 := by unfold mSub; omega
theorem InOk.take {i : TIn} (h : InOk i) {b : UInt8} (hb : i.early i.r = some b) :
    InOk { i with early := fun x => if x = i.r then none else i.early x, ready := i.ready ++ [b], r := (i.r + 1) % 4294967296 } ∧ i.q = ({ i with early := fun x => if x = i.r then none else i.early x, ready := i.ready ++ [b], r := (i.r + 1) % 4294967296 } : TIn).q + 1 := by
  have h0 := h.early i.r h.r (by rw [hb]; simp)
  rw [mSub_self] at h0
  unfold TIn.q at *
  have hl := h.len
  refine ⟨⟨?_, Nat.mod_lt _ (by decide), h.fin, fun k hk hn => ?_⟩, ?_⟩
  · simp; omega
  · simp only at hn
    by_cases e : k = i.r
    · rw [if_pos e] at hn; exact absurd rfl hn
    · rw [if_neg e] at hn
      have h1 := h.early k hk hn
      have h2 := h.r
      unfold mSub TIn.q at *
      simp only [List.length_append, List.length_singleton]
      omega
  · simp; omega
theorem InOk.end_ {i : TIn} (h : InOk i) : InOk { i with done := true, r := (i.r + 1) % 4294967296, early := fun _ => none } :=
  ⟨h.len, Nat.mod_lt _ (by decide), h.fin, fun _ _ hn => absurd rfl hn⟩
theorem tFlowN_ok (k : Nat) : ∀ i, InOk i → InOk (tFlowN k i) := by
  induction k with
  | zero => exact fun i h => h
  | succ k ih =>
    intro i h
    unfold tFlowN
    split
    · exact h
    split
    · exact h.end_
    split
    · exact h
    · rename_i b hb
      exact ih _ (h.take hb).1
theorem earlyPut_spec (q r seq : Nat) : ∀ (l : List UInt8) (e : Nat → Option UInt8) (i : Nat), (∀ k, k < 4294967296 → e k ≠ none → mSub k r < q) → ∀ k, k < 4294967296 → earlyPut e r q seq l i k ≠ none → mSub k r < q := by
  intro l
  induction l with
  | nil => intro e i h; exact h
  | cons b l ih =>
    intro e i h
    refine ih _ _ fun k hk hn => ?_
    by_cases hc : k = (seq + i) % 4294967296 ∧ e k = none ∧ ((seq + i) % 4294967296 + 4294967296 - r) % 4294967296 < q
    · obtain ⟨h1, _, h3⟩ := hc
      unfold mSub
      rw [h1]
      exact h3
    · simp only [if_neg hc] at hn
      exact h k hk hn
theorem tNote_ok {i : TIn} (h : InOk i) (s : TSeg) : InOk (tNote i s) := by
  have := earlyPut_spec i.q i.r s.seq s.data i.early 0 h.early
  unfold tNote
  split
  · exact ⟨h.len, h.r, Nat.mod_lt _ (by decide), this⟩
  · exact ⟨h.len, h.r, h.fin, this⟩
theorem tFlow_ok {i : TIn} (h : InOk i) : InOk (tFlow i) := tFlowN_ok _ _ h

def TOut.sent (o : TOut) : Int := (mSub o.n o.base : Int) - (if o.fin then 1 else 0)
def TOut.left (o : TOut) : Int := (o.bytes.length : Int) - o.sent
def tSend (c : TConn) (b : List UInt8) : TConn × Int :=
  if c.out.ended = true ∨ (c.state ≠ 2 ∧ c.state ≠ 3) then (c, 1)
  else if (b.length : Int) > 65536 - (c.out.bytes.length : Int) then (c, 7)
  else ({ c with out := { c.out with bytes := c.out.bytes ++ b } }, 0)
def tEnd (c : TConn) : TConn := { c with out := { c.out with ended := true } }
def tTick (c : TConn) (n : Int) : TConn :=
  if c.state = 5 ∨ (c.out.u = c.out.n ∧ (c.out.left = 0 ∨ c.out.w ≠ 0)) then { c with out := { c.out with clock := 0 } }
  else if c.out.clock + min (max n 0) 1073741824 < 200 * 2 ^ c.out.tries.toNat then { c with out := { c.out with clock := c.out.clock + min (max n 0) 1073741824 } }
  else if c.out.tries + 1 = 6 then { c with out := { c.out with tries := c.out.tries + 1, clock := 0 }, state := 5, gave := true }
  else if c.state = 1 then { c with out := { c.out with tries := c.out.tries + 1, clock := 0 }, begin_ := true }
  else { c with out := { c.out with tries := c.out.tries + 1, clock := 0 }, again := true }
/-- behind the answers: the window, the bytes, the stream's end -/
def tTakeB (c : TConn) (s : TSeg) : TConn :=
  { c with
    out := if tLess s.ack c.out.u = true then c.out else { c.out with w := s.window }
    inn := tFlow (tNote c.inn s)
    state := if (tFlow (tNote c.inn s)).done = true ∧ c.state = 2 then 3 else c.state
    acks := c.acks || decide (0 < s.data.length) || tBit s.flags 1 }
def tTakeA (c : TConn) (s : TSeg) : TConn :=
  if tLess c.out.u s.ack = true then
    if c.state = 4 ∧ s.ack = c.out.n then { c with out := tAnswered c.out s.ack, again := false, state := 5, off := true }
    else tTakeB { c with out := tAnswered c.out s.ack, again := false } s
  else tTakeB c s
def tTake (c : TConn) (s : TSeg) : TConn :=
  if c.state = 5 then c
  else if tBit s.flags 4 = true then (if s.seq = c.inn.r then { c with state := 5, off := true } else c)
  else if tBit s.flags 2 = true then
    if c.state = 1 ∧ tBit s.flags 16 = false ∧ (s.seq + 1) % 4294967296 = c.inn.r then { c with begin_ := true } else { c with acks := true }
  else if tBit s.flags 16 = false then c
  else if tLess c.out.n s.ack = true then { c with acks := true }
  else if c.state = 1 ∧ s.ack ≠ c.out.n then c
  else tTakeA { c with state := if c.state = 1 then 2 else c.state } s
/-- what is sent again -/
def tResent (c : TConn) : List TSeg × TConn :=
  if c.out.sent > 0 then ([tSegment c c.out.u 16 (c.out.bytes.take (min c.out.sent c.out.m).toNat)], c)
  else if c.out.fin = true ∧ c.out.u ≠ c.out.n then ([tSegment c (mSub c.out.n 1) 17 []], c)
  else if c.out.left > 0 then ([tSegment c c.out.u 16 (c.out.bytes.take 1)], { c with out := { c.out with n := (c.out.n + 1) % 4294967296 } })
  else ([], c)
def TConn.room (c : TConn) : Int := min c.out.m (min c.out.left (c.out.w - (mSub c.out.n c.out.u : Int)))
/-- what is sent for the first time -/
def tFreshN : Nat → TConn → List TSeg × TConn
  | 0, c => ([], c)
  | k + 1, c =>
    if c.out.left > 0 ∧ c.room > 0 then
      (tSegment c c.out.n (if c.room = c.out.left then 24 else 16) ((c.out.bytes.drop c.out.sent.toNat).take c.room.toNat) :: (tFreshN k { c with out := { c.out with n := (c.out.n + c.room.toNat) % 4294967296 } }).1,
        (tFreshN k { c with out := { c.out with n := (c.out.n + c.room.toNat) % 4294967296 } }).2)
    else ([], c)
def tFresh (c : TConn) : List TSeg × TConn := tFreshN c.out.left.toNat c
def tOutA (c : TConn) : List TSeg := if c.state = 1 ∧ c.begin_ = true then [{ tSegment c c.out.u 18 [] with mss := 1460 }] else []
def tOutB (c : TConn) : List TSeg × TConn := if c.again = true then tResent c else ([], c)
def tOutC (c : TConn) : List TSeg × TConn := if c.state = 2 ∨ c.state = 3 then tFresh c else ([], c)
def tOutD (c : TConn) : List TSeg × TConn :=
  if c.state = 3 ∧ c.out.ended = true ∧ c.out.left = 0 then ([tSegment c c.out.n 17 []], { c with out := { c.out with n := (c.out.n + 1) % 4294967296, fin := true }, state := 4 })
  else ([], c)
def tOutE (c : TConn) (l : List TSeg) : List TSeg := if c.acks = true ∧ l = [] then [tSegment c c.out.n 16 []] else []
def tQuiet (c : TConn) : TConn := { c with begin_ := false, again := false }
def tOut2 (c : TConn) (l : List TSeg) : List TSeg × TConn :=
  let p := tOutC c
  let q := tOutD p.2
  (l ++ p.1 ++ q.1 ++ tOutE q.2 (l ++ p.1 ++ q.1), { q.2 with acks := false })
def tOut (c : TConn) : List TSeg × TConn :=
  if c.off = true then ([], c)
  else if c.gave = true then ([tSegment c c.out.n 20 []], { c with off := true })
  else tOut2 (tQuiet (tOutB c).2) (tOutA c ++ (tOutB c).1)
/-- what holds of a connection's bytes that go out -/
structure OutOk (c : TConn) : Prop where
  u : c.out.u < 4294967296
  n : c.out.n < 4294967296
  base : c.out.base < 4294967296
  len : c.out.bytes.length ≤ 65536
  sent0 : 0 ≤ c.out.sent
  sent1 : c.out.sent ≤ (c.out.bytes.length : Int)
  nu : (mSub c.out.n c.out.u : Int) ≤ c.out.sent + 1 + (if c.out.fin then 1 else 0)
  all : c.out.fin = true → c.out.sent = (c.out.bytes.length : Int)
  fin : c.out.fin = true → c.state = 4 ∨ c.state = 5
  m0 : 64 ≤ c.out.m
  m1 : c.out.m ≤ 1460
  w0 : 0 ≤ c.out.w
  w1 : c.out.w ≤ 65535
  clock0 : 0 ≤ c.out.clock
  clock1 : c.out.clock ≤ 12800
  tries0 : 0 ≤ c.out.tries
  tries1 : c.out.tries ≤ 6
  tries5 : c.state ≠ 5 → c.out.tries ≤ 5
  st : 1 ≤ c.state ∧ c.state ≤ 5
theorem OutOk.nu' {c : TConn} (h : OutOk c) : mSub c.out.n c.out.u ≤ 65538 := by
  have a := h.nu
  have b := h.sent1
  have d := h.len
  split at a <;> omega
theorem mSub_n {o : TOut} : (mSub o.n o.base : Int) = o.sent + (if o.fin then 1 else 0) := by
  unfold TOut.sent
  omega
end
end Go.Proofs.Ytahlcjkcdgahkaa
