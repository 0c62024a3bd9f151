/- A connection whose segments are never answered. No program is walked here. -/
import Derived.Test.YtahlcjkcdgahkaaTcpX
namespace Go.Proofs.Ytahlcjkcdgahkaa
open Go Go.RowKit

/-- the clock at k, after t tries -/
def gAt (c : TConn) (t k : Nat) : TConn := { c with out := { c.out with tries := (t : Int), clock := (k : Int) } }
/-- something is under way, nothing else is owed -/
structure Stuck (c : TConn) : Prop where
  st : c.state = 1 ∨ c.state = 2
  off : c.off = false
  gave : c.gave = false
  again : c.again = false
  begin_ : c.begin_ = false
  acks : c.acks = false
  un : c.out.u ≠ c.out.n
  left : c.out.left = 0
theorem stuck_out {c : TConn} (h : Stuck c) (t k : Nat) : tOut (gAt c t k) = ([], gAt c t k) := by
  have hB : tOutB (gAt c t k) = ([], gAt c t k) := by unfold tOutB; rw [if_neg (by show ¬ c.again = true; rw [h.again]; simp)]
  have hA : tOutA (gAt c t k) = [] := by unfold tOutA; rw [if_neg (by show ¬ (c.state = 1 ∧ c.begin_ = true); rw [h.begin_]; simp)]
  have hq : tQuiet (gAt c t k) = gAt c t k := by
    have e1 := h.begin_
    have e2 := h.again
    unfold tQuiet gAt
    cases c
    simp_all
  have hC : tOutC (gAt c t k) = ([], gAt c t k) := by
    unfold tOutC
    split
    · unfold tFresh
      exact tFreshN_no (by show ¬ (c.out.left > 0 ∧ _); rw [h.left]; intro q; exact absurd q.1 (by decide)) _
    · rfl
  have hD : tOutD (gAt c t k) = ([], gAt c t k) := by unfold tOutD; rw [if_neg (by show ¬ (c.state = 3 ∧ _); rcases h.st with e | e <;> rw [e] <;> intro q <;> exact absurd q.1 (by decide))]
  unfold tOut
  rw [if_neg (by show ¬ c.off = true; rw [h.off]; simp), if_neg (by show ¬ c.gave = true; rw [h.gave]; simp), hA, hB]
  simp only
  rw [hq]
  unfold tOut2
  simp only [hC, hD, List.append_nil]
  unfold tOutE
  rw [if_neg (by show ¬ (c.acks = true ∧ _); rw [h.acks]; simp)]
  have e3 := h.acks
  unfold gAt
  cases c
  simp_all
theorem stuck_runs {c : TConn} (h : Stuck c) (t k : Nat) : ¬ ((gAt c t k).state = 5 ∨ ((gAt c t k).out.u = (gAt c t k).out.n ∧ ((gAt c t k).out.left = 0 ∨ (gAt c t k).out.w ≠ 0))) := by
  rintro (q | q)
  · have : c.state = 5 := q
    rcases h.st with e | e <;> rw [e] at this <;> exact absurd this (by decide)
  · exact h.un q.1
theorem stuck_wait {c : TConn} (h : Stuck c) (t : Nat) (ht : t ≤ 5) : tTick (gAt c t 0) ((200 * 2 ^ t : Nat) - 1 : Int) = gAt c t (200 * 2 ^ t - 1) := by
  have hr := stuck_runs h t 0
  unfold tTick
  rw [if_neg hr]
  have h2 : (200 * 2 ^ t : Nat) ≤ 6400 ∧ 200 ≤ (200 * 2 ^ t : Nat) := by
    have : t = 0 ∨ t = 1 ∨ t = 2 ∨ t = 3 ∨ t = 4 ∨ t = 5 := by omega
    rcases this with rfl | rfl | rfl | rfl | rfl | rfl <;> decide
  have e1 : (gAt c t 0).out.clock + min (max ((200 * 2 ^ t : Nat) - 1 : Int) 0) 1073741824 = ((200 * 2 ^ t - 1 : Nat) : Int) := by
    show ((0 : Nat) : Int) + _ = _
    omega
  have e2 : (200 : Int) * 2 ^ (gAt c t 0).out.tries.toNat = ((200 * 2 ^ t : Nat) : Int) := by
    show (200 : Int) * 2 ^ ((t : Int).toNat) = _
    rw [Int.toNat_natCast, Int.natCast_mul, Int.natCast_pow]
    rfl
  rw [e1, e2, if_pos (by omega)]
  rfl
theorem stuck_try {c : TConn} (h : Stuck c) (t : Nat) (ht : t ≤ 5) :
    tTick (gAt c t (200 * 2 ^ t - 1)) 1 = if t = 5 then { gAt c 6 0 with state := 5, gave := true } else if c.state = 1 then { gAt c (t + 1) 0 with begin_ := true } else { gAt c (t + 1) 0 with again := true } := by
  have hr := stuck_runs h t (200 * 2 ^ t - 1)
  unfold tTick
  rw [if_neg hr]
  have h2 : (200 * 2 ^ t : Nat) ≤ 6400 ∧ 200 ≤ (200 * 2 ^ t : Nat) := by
    have : t = 0 ∨ t = 1 ∨ t = 2 ∨ t = 3 ∨ t = 4 ∨ t = 5 := by omega
    rcases this with rfl | rfl | rfl | rfl | rfl | rfl <;> decide
  have e1 : (gAt c t (200 * 2 ^ t - 1)).out.clock + min (max (1 : Int) 0) 1073741824 = ((200 * 2 ^ t : Nat) : Int) := by
    show ((200 * 2 ^ t - 1 : Nat) : Int) + _ = _
    omega
  have e2 : (200 : Int) * 2 ^ (gAt c t (200 * 2 ^ t - 1)).out.tries.toNat = ((200 * 2 ^ t : Nat) : Int) := by
    show (200 : Int) * 2 ^ ((t : Int).toNat) = _
    rw [Int.toNat_natCast, Int.natCast_mul, Int.natCast_pow]
    rfl
  rw [e1, e2, if_neg (by omega)]
  have e3 : (gAt c t (200 * 2 ^ t - 1)).out.tries + 1 = ((t + 1 : Nat) : Int) := by
    show (t : Int) + 1 = _
    push_cast
    rfl
  rw [e3]
  by_cases h5 : t = 5
  · rw [if_pos h5, h5, if_pos (by decide)]
    rfl
  · rw [if_neg h5, if_neg (by omega)]
    rfl
theorem gave_out {c : TConn} (h : Stuck c) : tOut { gAt c 6 0 with state := 5, gave := true } = ([tSegment { gAt c 6 0 with state := 5, gave := true } c.out.n 20 []], { gAt c 6 0 with state := 5, gave := true, off := true }) := by
  unfold tOut
  rw [if_neg (by show ¬ c.off = true; rw [h.off]; simp), if_pos rfl]
  rfl
/-- Opening: the answer is sent again -/
theorem begin_out {c : TConn} (h : Stuck c) (h1 : c.state = 1) (t : Nat) : tOut { gAt c t 0 with begin_ := true } = ([{ tSegment c c.out.u 18 [] with mss := 1460 }], gAt c t 0) := by
  have hB : tOutB { gAt c t 0 with begin_ := true } = ([], { gAt c t 0 with begin_ := true }) := by unfold tOutB; rw [if_neg (by show ¬ c.again = true; rw [h.again]; simp)]
  have hA : tOutA { gAt c t 0 with begin_ := true } = [{ tSegment c c.out.u 18 [] with mss := 1460 }] := by unfold tOutA; rw [if_pos ⟨h1, rfl⟩]; rfl
  have hq : tQuiet { gAt c t 0 with begin_ := true } = gAt c t 0 := by
    have e1 := h.begin_
    have e2 := h.again
    unfold tQuiet gAt
    cases c
    simp_all
  have hC : tOutC (gAt c t 0) = ([], gAt c t 0) := by
    unfold tOutC
    rw [if_neg (by show ¬ (c.state = 2 ∨ c.state = 3); rw [h1]; decide)]
  have hD : tOutD (gAt c t 0) = ([], gAt c t 0) := by unfold tOutD; rw [if_neg (by show ¬ (c.state = 3 ∧ _); rw [h1]; intro q; exact absurd q.1 (by decide))]
  unfold tOut
  rw [if_neg (by show ¬ c.off = true; rw [h.off]; simp), if_neg (by show ¬ c.gave = true; rw [h.gave]; simp), hA, hB]
  simp only
  rw [hq]
  unfold tOut2
  simp only [hC, hD, List.append_nil]
  unfold tOutE
  rw [if_neg (by show ¬ (c.acks = true ∧ _); rw [h.acks]; simp)]
  have e3 := h.acks
  unfold gAt
  cases c
  simp_all
/-- Open: the bytes are sent again -/
theorem again_out {c : TConn} (h : Stuck c) (h2 : c.state = 2) (hs : c.out.sent = (c.out.bytes.length : Int)) (h0 : 0 < c.out.bytes.length) (hm : (c.out.bytes.length : Int) ≤ c.out.m) (t : Nat) : tOut { gAt c t 0 with again := true } = ([tSegment c c.out.u 16 c.out.bytes], gAt c t 0) := by
  have hB : tOutB { gAt c t 0 with again := true } = ([tSegment c c.out.u 16 c.out.bytes], { gAt c t 0 with again := true }) := by
    unfold tOutB
    rw [if_pos rfl]
    unfold tResent
    rw [if_pos (by show c.out.sent > 0; omega)]
    have e : (min c.out.sent c.out.m).toNat = c.out.bytes.length := by omega
    show ([tSegment _ c.out.u 16 (c.out.bytes.take (min c.out.sent c.out.m).toNat)], _) = _
    rw [e, List.take_length]
    rfl
  have hA : tOutA { gAt c t 0 with again := true } = [] := by unfold tOutA; rw [if_neg (by show ¬ (c.state = 1 ∧ _); rw [h2]; intro q; exact absurd q.1 (by decide))]
  have hq : tQuiet { gAt c t 0 with again := true } = gAt c t 0 := by
    have e1 := h.begin_
    have e2 := h.again
    unfold tQuiet gAt
    cases c
    simp_all
  have hC : tOutC (gAt c t 0) = ([], gAt c t 0) := by
    unfold tOutC
    rw [if_pos (.inl h2)]
    unfold tFresh
    exact tFreshN_no (by show ¬ (c.out.left > 0 ∧ _); rw [h.left]; intro q; exact absurd q.1 (by decide)) _
  have hD : tOutD (gAt c t 0) = ([], gAt c t 0) := by unfold tOutD; rw [if_neg (by show ¬ (c.state = 3 ∧ _); rw [h2]; intro q; exact absurd q.1 (by decide))]
  unfold tOut
  rw [if_neg (by show ¬ c.off = true; rw [h.off]; simp), if_neg (by show ¬ c.gave = true; rw [h.gave]; simp), hA, hB]
  simp only
  rw [hq]
  unfold tOut2
  simp only [hC, hD, List.append_nil, List.nil_append]
  unfold tOutE
  rw [if_neg (by show ¬ (c.acks = true ∧ _); rw [h.acks]; simp)]
  have e3 := h.acks
  unfold gAt
  cases c
  simp_all
/-- Opening, the first answer sent -/
theorem stuck_syned (first : Nat) : Stuck (tSyned 3 first 4000) ∧ gAt (tSyned 3 first 4000) 0 0 = tSyned 3 first 4000 := by
  refine ⟨⟨.inl rfl, rfl, rfl, rfl, rfl, rfl, ?_, ?_⟩, rfl⟩
  · show first ≠ (first + 1) % 4294967296
    omega
  · unfold TOut.left TOut.sent tSyned tNew
    simp only [mSub_self]
    rfl
/-- Open, bytes handed in and sent -/
def tGone (first : Nat) (data : List UInt8) : TConn := { tOpen 3 first 4000 with out := { (tOpen 3 first 4000).out with bytes := data, n := ((first + 1) % 4294967296 + data.length) % 4294967296 } }
theorem gone_send (first : Nat) (data : List UInt8) (hl : data.length ≤ 900) : tSend (tOpen 3 first 4000) data = ({ tOpen 3 first 4000 with out := { (tOpen 3 first 4000).out with bytes := data } }, 0) := by
  unfold tSend
  rw [if_neg (by intro q; rcases q with q | q; cases q; exact absurd rfl q.1), if_neg (by show ¬ (data.length : Int) > 65536 - 0; omega)]
  rfl
theorem gone_sent (first : Nat) (data : List UInt8) (hl : data.length ≤ 900) : (tGone first data).out.sent = (data.length : Int) := by
  unfold TOut.sent tGone tOpen
  simp only [Bool.false_eq_true, if_false]
  have : mSub (((first + 1) % 4294967296 + data.length) % 4294967296) ((first + 1) % 4294967296) = data.length := by unfold mSub; omega
  rw [this]
  omega
theorem gone_out (first : Nat) (data : List UInt8) (hl : data.length ≤ 900) (h0 : 0 < data.length) : ∃ s, tOut { tOpen 3 first 4000 with out := { (tOpen 3 first 4000).out with bytes := data } } = ([s], tGone first data) := by
  obtain ⟨c, hc⟩ : ∃ c : TConn, ({ tOpen 3 first 4000 with out := { (tOpen 3 first 4000).out with bytes := data } } : TConn) = c := ⟨_, rfl⟩
  have hsent : c.out.sent = 0 := by rw [← hc]; unfold TOut.sent tOpen; simp only [mSub_self]; rfl
  have hbytes : c.out.bytes = data := by rw [← hc]
  have hleft : c.out.left = (data.length : Int) := by unfold TOut.left; rw [hsent, hbytes]; omega
  have hroom : c.room = (data.length : Int) := by
    unfold TConn.room
    rw [hleft]
    have e1 : c.out.m = 1000 := by rw [← hc]; rfl
    have e2 : c.out.w = 4000 := by rw [← hc]; rfl
    have e3 : mSub c.out.n c.out.u = 0 := by rw [← hc]; exact mSub_self _
    rw [e1, e2, e3]
    omega
  have hst : c.state = 2 := by rw [← hc]; rfl
  have hgone : tSentMore c data.length = tGone first data := by rw [← hc]; rfl
  have hgl : (tGone first data).out.left = 0 := by unfold TOut.left; rw [gone_sent first data hl]; show (data.length : Int) - _ = 0; omega
  have hF : ∃ s, tFresh c = ([s], tGone first data) := by
    unfold tFresh
    obtain ⟨k, hk⟩ : ∃ k, c.out.left.toNat = k + 1 := ⟨data.length - 1, by rw [hleft]; omega⟩
    rw [hk, tFreshN_yes (by rw [hleft]; omega) hroom h0 k, hgone, tFreshN_no (by rw [hgl]; intro q; exact absurd q.1 (by decide))]
    exact ⟨_, rfl⟩
  obtain ⟨s, hs⟩ := hF
  refine ⟨s, ?_⟩
  rw [hc]
  have hB : tOutB c = ([], c) := by unfold tOutB; rw [if_neg (by rw [← hc]; exact Bool.false_ne_true)]
  have hA : tOutA c = [] := by unfold tOutA; rw [if_neg (by rw [hst]; intro q; exact absurd q.1 (by decide))]
  have hq : tQuiet c = c := by rw [← hc]; rfl
  have hC : tOutC c = ([s], tGone first data) := by unfold tOutC; rw [if_pos (.inl hst), hs]
  have hD : tOutD (tGone first data) = ([], tGone first data) := by unfold tOutD; rw [if_neg (by intro q; exact absurd (show (2 : Int) = 3 from q.1) (by decide))]
  unfold tOut
  rw [if_neg (by rw [← hc]; exact Bool.false_ne_true), if_neg (by rw [← hc]; exact Bool.false_ne_true), hA, hB]
  simp only
  rw [hq]
  unfold tOut2
  simp only [hC, hD, List.append_nil, List.nil_append]
  unfold tOutE
  rw [if_neg (by intro q; exact absurd q.1 Bool.false_ne_true)]
  rfl
theorem stuck_gone (first : Nat) (data : List UInt8) (hl : data.length ≤ 900) (h0 : 0 < data.length) : Stuck (tGone first data) ∧ gAt (tGone first data) 0 0 = tGone first data := by
  refine ⟨⟨.inr rfl, rfl, rfl, rfl, rfl, rfl, ?_, ?_⟩, rfl⟩
  · show (first + 1) % 4294967296 ≠ ((first + 1) % 4294967296 + data.length) % 4294967296
    omega
  · unfold TOut.left
    rw [gone_sent first data hl]
    show (data.length : Int) - _ = 0
    omega
end Go.Proofs.Ytahlcjkcdgahkaa
