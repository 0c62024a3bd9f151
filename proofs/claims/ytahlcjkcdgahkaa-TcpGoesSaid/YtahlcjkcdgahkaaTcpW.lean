/- An open connection that is idle: what it takes, what goes out. -/
import Derived.Test.YtahlcjkcdgahkaaTcpV
namespace Go.Proofs.Ytahlcjkcdgahkaa
open Go Go.RowKit

/-- nothing is under way, nothing waits -/
structure Idle (c : TConn) : Prop where
  st : c.state = 2
  off : c.off = false
  gave : c.gave = false
  again : c.again = false
  begin_ : c.begin_ = false
  un : c.out.u = c.out.n
  bytes : c.out.bytes = []
  sent : c.out.sent = 0
theorem idle_open (seq first : Nat) (window : Int) : Idle (tOpen seq first window) := by
  refine ⟨rfl, rfl, rfl, rfl, rfl, rfl, rfl, ?_⟩
  unfold TOut.sent tOpen
  simp only [mSub_self]
  rfl
/-- a segment that answers nothing new -/
theorem take_ack {c : TConn} (h : Idle c) (s : TSeg) (hf : s.flags = 16) (ha : s.ack = c.out.n) :
    tTake c s = { c with out := { c.out with w := s.window }, inn := tFlow (tNote c.inn s), state := if (tFlow (tNote c.inn s)).done = true then 3 else 2, acks := c.acks || decide (0 < s.data.length) } := by
  have h1 : tBit s.flags 4 = false := by rw [hf]; decide
  have h2 : tBit s.flags 2 = false := by rw [hf]; decide
  have h3 : tBit s.flags 16 = true := by rw [hf]; decide
  have h4 : tBit s.flags 1 = false := by rw [hf]; decide
  unfold tTake
  rw [if_neg (by rw [h.st]; decide), if_neg (by rw [h1]; simp), if_neg (by rw [h2]; simp), if_neg (by rw [h3]; simp), if_neg (by rw [ha, tLess_self]; simp), if_neg (by rw [h.st]; intro q; exact absurd q.1 (by decide))]
  have e : ({ c with state := if c.state = 1 then 2 else c.state } : TConn) = c := by rw [h.st]; rw [if_neg (by decide), ← h.st]
  rw [e]
  unfold tTakeA
  rw [if_neg (by rw [ha, h.un, tLess_self]; simp)]
  unfold tTakeB
  rw [if_neg (by rw [ha, h.un, tLess_self]; simp), h4, h.st]
  simp only [Bool.or_false, and_true]
theorem take_ack_idle {c : TConn} (h : Idle c) (s : TSeg) (hf : s.flags = 16) (ha : s.ack = c.out.n) (hd : (tFlow (tNote c.inn s)).done = false) : Idle (tTake c s) ∧ (tTake c s).inn = tFlow (tNote c.inn s) ∧ (tTake c s).acks = (c.acks || decide (0 < s.data.length)) ∧ (tTake c s).src = c.src ∧ (tTake c s).dst = c.dst ∧ (tTake c s).out.n = c.out.n := by
  rw [take_ack h s hf ha, if_neg (by rw [hd]; simp)]
  exact ⟨⟨rfl, h.off, h.gave, h.again, h.begin_, h.un, h.bytes, h.sent⟩, rfl, rfl, rfl, rfl, rfl⟩
theorem out_idle {c : TConn} (h : Idle c) : tOut c = (if c.acks = true then [tSegment c c.out.n 16 []] else [], { c with acks := false }) := by
  have hl : c.out.left = 0 := by unfold TOut.left; rw [h.bytes, h.sent]; rfl
  have hB : tOutB c = ([], c) := by unfold tOutB; rw [if_neg (by rw [h.again]; simp)]
  have hA : tOutA c = [] := by unfold tOutA; rw [if_neg (by rw [h.st]; intro q; exact absurd q.1 (by decide))]
  have hq : tQuiet c = c := by
    have e1 := h.begin_
    have e2 := h.again
    unfold tQuiet
    cases c
    simp_all
  have hC : tOutC c = ([], c) := by
    unfold tOutC
    rw [if_pos (.inl h.st)]
    unfold tFresh
    exact tFreshN_no (by rw [hl]; intro q; exact absurd q.1 (by decide)) _
  have hD : tOutD c = ([], c) := by unfold tOutD; rw [if_neg (by rw [h.st]; intro q; exact absurd q.1 (by decide))]
  unfold tOut
  rw [if_neg (by rw [h.off]; simp), if_neg (by rw [h.gave]; simp), hA, hB]
  simp only
  rw [hq]
  unfold tOut2
  simp only [hC, hD, List.append_nil, List.nil_append]
  unfold tOutE
  simp only [and_true]
theorem idle_acks {c : TConn} (h : Idle c) (b : Bool) : Idle { c with acks := b } := ⟨h.st, h.off, h.gave, h.again, h.begin_, h.un, h.bytes, h.sent⟩
theorem idle_recv {c : TConn} (h : Idle c) : Idle (tRecv c) := ⟨h.st, h.off, h.gave, h.again, h.begin_, h.un, h.bytes, h.sent⟩
theorem strm_open (seq first : Nat) (window : Int) (S : List UInt8) (hl : S.length ≤ 1073741824) : Strm (tOpen seq first window).inn ((seq + 1) % 4294967296) S 0 (fun _ => false) :=
  ⟨by show (seq + 1) % 4294967296 = _; omega, fun x _ => by simp [tOpen], (fun j hj => by cases hj), rfl, rfl, hl, Nat.zero_le _⟩
/-- the whole stream at once -/
theorem runP_whole (q l : Nat) (hk : l ≤ q) : runP (addP (fun _ => false) 0 q 0 l) (q + 1) 0 = l := by
  have h1 := runP_all (addP (fun _ => false) 0 q 0 l) (q + 1) 0
  have h2 := runP_end (addP (fun _ => false) 0 q 0 l) (q + 1) 0
  have hP : ∀ j, addP (fun _ => false) 0 q 0 l j = true ↔ j < l := by
    intro j
    rw [addP_iff]
    simp
    omega
  generalize runP (addP (fun _ => false) 0 q 0 l) (q + 1) 0 = r at *
  rcases Nat.lt_trichotomy r l with h | h | h
  · have h3 := h2 (by omega)
    have := (hP r).2 h
    rw [h3] at this
    cases this
  · exact h
  · have := (hP l).1 (h1 l (Nat.zero_le _) h)
    omega
/-- a segment without a word -/
theorem take_mute {c : TConn} (s : TSeg) (hf : s.flags = 0) : tTake c s = c := by
  unfold tTake
  rw [hf]
  split
  · rfl
  · rw [if_neg (by decide), if_neg (by decide), if_pos (by decide)]
theorem take_rst {c : TConn} (h : c.state ≠ 5) (s : TSeg) (hf : s.flags = 4) : tTake c s = if s.seq = c.inn.r then { c with state := 5, off := true } else c := by
  unfold tTake
  rw [hf, if_neg h, if_pos (by decide)]
theorem out_off {c : TConn} (h : c.off = true) : tOut c = ([], c) := by unfold tOut; rw [if_pos h]
/-- Send -/
theorem send_conn {w0 w : World} {g : Nat} {c : TConn} {m : Nat} {F : Nat → Prop} (h : Conn w0 w g c m F) (v : Value) (b : List UInt8) (hb : Bs w v b) :
    Calls Try.prog 21 #[.pointer (some ⟨g, 0, none⟩), v] w fun e w' => e = .returned (.int .i64 (tSend c b).2) ∧ ∃ F', Conn w0 w' g (tSend c b).1 m F' ∧ Frame F w w' ∧ ∀ k, F' k → F k ∨ w.heap.size ≤ k := by
  refine (send_any w0.heap.size g c m F v b w h.inv h.o hb).mono ?_
  rintro e w' ⟨he, F', hi, hfr, hnew⟩
  have := tSend_ok h.o b
  exact ⟨he, F', h.frameB hi hfr (by rw [this.2]; exact h.i) this.1, hfr, hnew⟩
theorem tick_conn {w0 w : World} {g : Nat} {c : TConn} {m : Nat} {F : Nat → Prop} (h : Conn w0 w g c m F) (n : Int) :
    Calls Try.prog 23 #[.pointer (some ⟨g, 0, none⟩), .int .i64 n] w fun e w' => (∃ u, e = .returned u) ∧ Conn w0 w' g (tTick c n) m F ∧ Frame F w w' := by
  refine (tick_any w0.heap.size g c m F n w h.inv h.o).mono ?_
  rintro e w' ⟨hu, hi, hfr⟩
  have := tTick_ok h.o n
  exact ⟨hu, h.frameB hi hfr (by rw [this.2.1]; exact h.i) this.1, hfr⟩
theorem end_conn {w0 w : World} {g : Nat} {c : TConn} {m : Nat} {F : Nat → Prop} (h : Conn w0 w g c m F) :
    Calls Try.prog 29 #[.pointer (some ⟨g, 0, none⟩)] w fun e w' => (∃ u, e = .returned u) ∧ Conn w0 w' g (tEnd c) m F ∧ Frame F w w' := by
  refine (end_any w0.heap.size g c m F w h.inv).mono ?_
  rintro e w' ⟨hu, hi, hfr, _⟩
  exact ⟨hu, h.frameB hi hfr h.i (tEnd_ok h.o), hfr⟩
/-- Take, the segment's fields by themselves -/
theorem take_at {w0 w : World} {g : Nat} {c : TConn} {m : Nat} {F : Nat → Prop} (h : Conn w0 w g c m F) (s0 d0 : Int) (sq ak : Nat) (fl wi ms : Int) (data : List UInt8) (A : Option Addr) (n cap : Nat) (hs : sq < 4294967296) (ha : ak < 4294967296) (hw0 : 0 ≤ wi) (hw1 : wi ≤ 65535) (hd : Bs w (.slice A n cap) data) (hl : data.length = n) (hn : n ≤ 100000) (hm : m ≤ 1000000000) (hf : n = 0 ∨ ∀ k, (Value.slice A n cap).ownBlock = some k → ¬ F k) (c' : TConn) (hc : tTake c ⟨s0, d0, sq, ak, fl, wi, ms, data⟩ = c') :
    Calls Try.prog 16 #[.pointer (some ⟨g, 0, none⟩), .agg #[.int .i64 s0, .int .i64 d0, .int .u32 (sq : Int), .int .u32 (ak : Int), .int .i64 fl, .int .i64 wi, .int .i64 ms, .slice A n cap]] w fun e w' => (∃ u, e = .returned u) ∧ ∃ F', Conn w0 w' g c' (m + n) F' ∧ Frame F w w' ∧ ∀ k, F' k → F k ∨ w.heap.size ≤ k := by
  subst hc
  subst hl
  exact take_conn h ⟨s0, d0, sq, ak, fl, wi, ms, data⟩ A _ cap hs ha ⟨hw0, hw1⟩ hd hn hm hf
end Go.Proofs.Ytahlcjkcdgahkaa
