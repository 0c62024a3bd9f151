/- What each call of a connection does, on plain data. No program is walked here. -/
import Derived.Test.YtahlcjkcdgahkaaTcpD
import Derived.Test.YtahlcjkcdgahkaaTcpE
namespace Go.Proofs.Ytahlcjkcdgahkaa
open Go Go.RowKit

/-- does a flag stand? -/
def tBit (fl b : Int) : Bool := bits .and .i64 fl b != 0
def m32 (n : Nat) : Nat := n % 4294967296
/-- a less b on the ring -/
def mSub (a b : Nat) : Nat := (a + 4294967296 - b) % 4294967296
def TIn.q (i : TIn) : Nat := 16384 - i.ready.length
def tNote (i : TIn) (s : TSeg) : TIn :=
  if tBit s.flags 1 = true ∧ i.told = false ∧ mSub ((s.seq + s.data.length) % 4294967296) i.r ≤ i.q then
    { i with early := earlyPut i.early i.r i.q s.seq s.data 0, told := true, fin := (s.seq + s.data.length) % 4294967296 }
  else { i with early := earlyPut i.early i.r i.q s.seq s.data 0 }
def tFlowN : Nat → TIn → TIn
  | 0, i => i
  | k + 1, i =>
    if i.done = true then i
    else if i.told = true ∧ i.fin = i.r then { i with done := true, r := (i.r + 1) % 4294967296, early := fun _ => none }
    else match i.early i.r with
      | none => i
      | some b => tFlowN k { i with early := fun x => if x = i.r then none else i.early x, ready := i.ready ++ [b], r := (i.r + 1) % 4294967296 }
def tFlow (i : TIn) : TIn := tFlowN (i.q + 1) i
/-- what came early lies in the window ahead -/
structure InOk (i : TIn) : Prop where
  len : i.ready.length ≤ 16384
  r : i.r < 4294967296
  fin : i.fin < 4294967296
  early : ∀ k, k < 4294967296 → i.early k ≠ none → mSub k i.r < i.q
theorem mSub_lt (a b : Nat) : mSub a b < 4294967296 := Nat.mod_lt _ (by decide)
theorem mSub_self (a : Nat) : mSub a a = 0 := by unfold mSub; omega
theorem InOk.take {i : TIn} (h : InOk i) {b : UInt8} (hb : i.early i.r = some b) :
    InOk { i with early := fun x => if x = i.r then none else i.early x, ready := i.ready ++ [b], r := (i.r + 1) % 4294967296 } ∧ i.q = ({ i with early := fun x => if x = i.r then none else i.early x, ready := i.ready ++ [b], r := (i.r + 1) % 4294967296 } : TIn).q + 1 := by
  have h0 := h.early i.r h.r (by rw [hb]; simp)
  rw [mSub_self] at h0
  unfold TIn.q at *
  have hl := h.len
  refine ⟨⟨?_, Nat.mod_lt _ (by decide), h.fin, fun k hk hn => ?_⟩, ?_⟩
  · simp; omega
  · simp only at hn
    by_cases e : k = i.r
    · rw [if_pos e] at hn; exact absurd rfl hn
    · rw [if_neg e] at hn
      have h1 := h.early k hk hn
      have h2 := h.r
      unfold mSub TIn.q at *
      simp only [List.length_append, List.length_singleton]
      omega
  · simp; omega
theorem InOk.end_ {i : TIn} (h : InOk i) : InOk { i with done := true, r := (i.r + 1) % 4294967296, early := fun _ => none } :=
  ⟨h.len, Nat.mod_lt _ (by decide), h.fin, fun _ _ hn => absurd rfl hn⟩
theorem tFlowN_ok (k : Nat) : ∀ i, InOk i → InOk (tFlowN k i) := by
  induction k with
  | zero => exact fun i h => h
  | succ k ih =>
    intro i h
    unfold tFlowN
    split
    · exact h
    split
    · exact h.end_
    split
    · exact h
    · rename_i b hb
      exact ih _ (h.take hb).1
theorem earlyPut_spec (q r seq : Nat) : ∀ (l : List UInt8) (e : Nat → Option UInt8) (i : Nat), (∀ k, k < 4294967296 → e k ≠ none → mSub k r < q) → ∀ k, k < 4294967296 → earlyPut e r q seq l i k ≠ none → mSub k r < q := by
  intro l
  induction l with
  | nil => intro e i h; exact h
  | cons b l ih =>
    intro e i h
    refine ih _ _ fun k hk hn => ?_
    by_cases hc : k = (seq + i) % 4294967296 ∧ e k = none ∧ ((seq + i) % 4294967296 + 4294967296 - r) % 4294967296 < q
    · obtain ⟨h1, _, h3⟩ := hc
      unfold mSub
      rw [h1]
      exact h3
    · simp only [if_neg hc] at hn
      exact h k hk hn
theorem tNote_ok {i : TIn} (h : InOk i) (s : TSeg) : InOk (tNote i s) := by
  have := earlyPut_spec i.q i.r s.seq s.data i.early 0 h.early
  unfold tNote
  split
  · exact ⟨h.len, h.r, Nat.mod_lt _ (by decide), this⟩
  · exact ⟨h.len, h.r, h.fin, this⟩
theorem tFlow_ok {i : TIn} (h : InOk i) : InOk (tFlow i) := tFlowN_ok _ _ h

def TOut.sent (o : TOut) : Int := (mSub o.n o.base : Int) - (if o.fin then 1 else 0)
def TOut.left (o : TOut) : Int := (o.bytes.length : Int) - o.sent
def tSend (c : TConn) (b : List UInt8) : TConn × Int :=
  if c.out.ended = true ∨ (c.state ≠ 2 ∧ c.state ≠ 3) then (c, 1)
  else if (b.length : Int) > 65536 - (c.out.bytes.length : Int) then (c, 7)
  else ({ c with out := { c.out with bytes := c.out.bytes ++ b } }, 0)
def tEnd (c : TConn) : TConn := { c with out := { c.out with ended := true } }
def tTick (c : TConn) (n : Int) : TConn :=
  if c.state = 5 ∨ (c.out.u = c.out.n ∧ (c.out.left = 0 ∨ c.out.w ≠ 0)) then { c with out := { c.out with clock := 0 } }
  else if c.out.clock + min (max n 0) 1073741824 < 200 * 2 ^ c.out.tries.toNat then { c with out := { c.out with clock := c.out.clock + min (max n 0) 1073741824 } }
  else if c.out.tries + 1 = 6 then { c with out := { c.out with tries := c.out.tries + 1, clock := 0 }, state := 5, gave := true }
  else if c.state = 1 then { c with out := { c.out with tries := c.out.tries + 1, clock := 0 }, begin_ := true }
  else { c with out := { c.out with tries := c.out.tries + 1, clock := 0 }, again := true }
/-- behind the answers: the window, the bytes, the stream's end -/
def tTakeB (c : TConn) (s : TSeg) : TConn :=
  { c with
    out := if tLess s.ack c.out.u = true then c.out else { c.out with w := s.window }
    inn := tFlow (tNote c.inn s)
    state := if (tFlow (tNote c.inn s)).done = true ∧ c.state = 2 then 3 else c.state
    acks := c.acks || decide (0 < s.data.length) || tBit s.flags 1 }
def tTakeA (c : TConn) (s : TSeg) : TConn :=
  if tLess c.out.u s.ack = true then
    if c.state = 4 ∧ s.ack = c.out.n then { c with out := tAnswered c.out s.ack, again := false, state := 5, off := true }
    else tTakeB { c with out := tAnswered c.out s.ack, again := false } s
  else tTakeB c s
def tTake (c : TConn) (s : TSeg) : TConn :=
  if c.state = 5 then c
  else if tBit s.flags 4 = true then (if s.seq = c.inn.r then { c with state := 5, off := true } else c)
  else if tBit s.flags 2 = true then
    if c.state = 1 ∧ tBit s.flags 16 = false ∧ (s.seq + 1) % 4294967296 = c.inn.r then { c with begin_ := true } else { c with acks := true }
  else if tBit s.flags 16 = false then c
  else if tLess c.out.n s.ack = true then { c with acks := true }
  else if c.state = 1 ∧ s.ack ≠ c.out.n then c
  else tTakeA { c with state := if c.state = 1 then 2 else c.state } s
/-- what is sent again -/
def tResent (c : TConn) : List TSeg × TConn :=
  if c.out.sent > 0 then ([tSegment c c.out.u 16 (c.out.bytes.take (min c.out.sent c.out.m).toNat)], c)
  else if c.out.fin = true ∧ c.out.u ≠ c.out.n then ([tSegment c (mSub c.out.n 1) 17 []], c)
  else if c.out.left > 0 then ([tSegment c c.out.u 16 (c.out.bytes.take 1)], { c with out := { c.out with n := (c.out.n + 1) % 4294967296 } })
  else ([], c)
def TConn.room (c : TConn) : Int := min c.out.m (min c.out.left (c.out.w - (mSub c.out.n c.out.u : Int)))
/-- what is sent for the first time -/
def tFreshN : Nat → TConn → List TSeg × TConn
  | 0, c => ([], c)
  | k + 1, c =>
    if c.out.left > 0 ∧ c.room > 0 then
      (tSegment c c.out.n (if c.room = c.out.left then 24 else 16) ((c.out.bytes.drop c.out.sent.toNat).take c.room.toNat) :: (tFreshN k { c with out := { c.out with n := (c.out.n + c.room.toNat) % 4294967296 } }).1,
        (tFreshN k { c with out := { c.out with n := (c.out.n + c.room.toNat) % 4294967296 } }).2)
    else ([], c)
def tFresh (c : TConn) : List TSeg × TConn := tFreshN c.out.left.toNat c
def tOutA (c : TConn) : List TSeg := if c.state = 1 ∧ c.begin_ = true then [{ tSegment c c.out.u 18 [] with mss := 1460 }] else []
def tOutB (c : TConn) : List TSeg × TConn := if c.again = true then tResent c else ([], c)
def tOutC (c : TConn) : List TSeg × TConn := if c.state = 2 ∨ c.state = 3 then tFresh c else ([], c)
def tOutD (c : TConn) : List TSeg × TConn :=
  if c.state = 3 ∧ c.out.ended = true ∧ c.out.left = 0 then ([tSegment c c.out.n 17 []], { c with out := { c.out with n := (c.out.n + 1) % 4294967296, fin := true }, state := 4 })
  else ([], c)
def tOutE (c : TConn) (l : List TSeg) : List TSeg := if c.acks = true ∧ l = [] then [tSegment c c.out.n 16 []] else []
def tQuiet (c : TConn) : TConn := { c with begin_ := false, again := false }
def tOut2 (c : TConn) (l : List TSeg) : List TSeg × TConn :=
  let p := tOutC c
  let q := tOutD p.2
  (l ++ p.1 ++ q.1 ++ tOutE q.2 (l ++ p.1 ++ q.1), { q.2 with acks := false })
def tOut (c : TConn) : List TSeg × TConn :=
  if c.off = true then ([], c)
  else if c.gave = true then ([tSegment c c.out.n 20 []], { c with off := true })
  else tOut2 (tQuiet (tOutB c).2) (tOutA c ++ (tOutB c).1)
/-- what holds of a connection's bytes that go out -/
structure OutOk (c : TConn) : Prop where
  u : c.out.u < 4294967296
  n : c.out.n < 4294967296
  base : c.out.base < 4294967296
  len : c.out.bytes.length ≤ 65536
  sent0 : 0 ≤ c.out.sent
  sent1 : c.out.sent ≤ (c.out.bytes.length : Int)
  nu : (mSub c.out.n c.out.u : Int) ≤ c.out.sent + 1 + (if c.out.fin then 1 else 0)
  all : c.out.fin = true → c.out.sent = (c.out.bytes.length : Int)
  fin : c.out.fin = true → c.state = 4 ∨ c.state = 5
  m0 : 64 ≤ c.out.m
  m1 : c.out.m ≤ 1460
  w0 : 0 ≤ c.out.w
  w1 : c.out.w ≤ 65535
  clock0 : 0 ≤ c.out.clock
  clock1 : c.out.clock ≤ 12800
  tries0 : 0 ≤ c.out.tries
  tries1 : c.out.tries ≤ 6
  tries5 : c.state ≠ 5 → c.out.tries ≤ 5
  st : 1 ≤ c.state ∧ c.state ≤ 5
theorem OutOk.nu' {c : TConn} (h : OutOk c) : mSub c.out.n c.out.u ≤ 65538 := by
  have a := h.nu
  have b := h.sent1
  have d := h.len
  split at a <;> omega
theorem mSub_n {o : TOut} : (mSub o.n o.base : Int) = o.sent + (if o.fin then 1 else 0) := by
  unfold TOut.sent
  omega
end Go.Proofs.Ytahlcjkcdgahkaa
