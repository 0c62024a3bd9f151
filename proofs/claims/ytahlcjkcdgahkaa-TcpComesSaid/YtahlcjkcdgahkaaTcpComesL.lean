/- Pieces of a stream in whatever order. No program is walked here. -/
import Derived.Test.YtahlcjkcdgahkaaTcpX
namespace Go.Proofs.Ytahlcjkcdgahkaa
open Go Go.RowKit

/-- where the pieces of these sizes begin -/
def atsOf (ns : List Nat) : List Nat := (List.range ns.length).map fun j => (ns.take j).sum
theorem atsOf_len (ns : List Nat) : (atsOf ns).length = ns.length := by simp [atsOf]
theorem atsOf_snoc (ns : List Nat) (n : Nat) : atsOf (ns ++ [n]) = atsOf ns ++ [ns.sum] := by
  unfold atsOf
  rw [List.length_append, List.length_singleton, List.range_succ, List.map_append]
  congr 1
  · apply List.map_congr_left
    intro j hj
    rw [List.take_append_of_le_length (by have := List.mem_range.1 hj; omega)]
  · simp
theorem atsOf_at (ns : List Nat) (j : Nat) (hj : j < ns.length) : (atsOf ns)[j]? = some (ns.take j).sum := by
  unfold atsOf
  simp [hj]
theorem take_sum_succ (ns : List Nat) (j : Nat) (hj : j < ns.length) : (ns.take (j + 1)).sum = (ns.take j).sum + ns[j] := by
  rw [take_snoc ns j hj, List.sum_append]
  simp
theorem take_sum_le (ns : List Nat) (j : Nat) : (ns.take j).sum ≤ ns.sum := by
  have : ns.sum = (ns.take j).sum + (ns.drop j).sum := by rw [← List.sum_append, List.take_append_drop]
  omega
/-- the pieces: each at least one byte, together the stream -/
structure Pcs (ns : List Nat) (L : Nat) : Prop where
  pos : ∀ n ∈ ns, 1 ≤ n
  few : ∀ n ∈ ns, n ≤ 701
  sum : ns.sum ≤ L
theorem Pcs.len {ns : List Nat} {L : Nat} (h : Pcs ns L) : ns.length ≤ ns.sum := by
  have h1 := h.pos
  clear h
  induction ns with
  | nil => simp
  | cons n ns ih =>
    have h2 := h1 n (List.mem_cons_self ..)
    have h3 := ih (fun m hm => h1 m (List.mem_cons_of_mem _ hm))
    simp only [List.length_cons, List.sum_cons]
    omega
theorem Pcs.snoc {ns : List Nat} {L n : Nat} (h : Pcs ns L) (h1 : 1 ≤ n) (h2 : n ≤ 701) (h3 : ns.sum + n ≤ L) : Pcs (ns ++ [n]) L := by
  refine ⟨fun m hm => ?_, fun m hm => ?_, by rw [List.sum_append]; simpa using h3⟩
  · rcases List.mem_append.1 hm with hm | hm
    · exact h.pos m hm
    · obtain rfl : m = n := by simpa using hm
      exact h1
  · rcases List.mem_append.1 hm with hm | hm
    · exact h.few m hm
    · obtain rfl : m = n := by simpa using hm
      exact h2
theorem out_calm (c : TConn) (hst : c.state = 2 ∨ (c.state = 3 ∧ c.out.ended = false)) (off : c.off = false) (gave : c.gave = false) (again : c.again = false) (beg : c.begin_ = false) (bytes : c.out.bytes = []) (sent : c.out.sent = 0) (acks : c.acks = true) : tOut c = ([tSegment c c.out.n 16 []], { c with acks := false }) := by
  have hl : c.out.left = 0 := by unfold TOut.left; rw [bytes, sent]; rfl
  have hB : tOutB c = ([], c) := by unfold tOutB; rw [if_neg (by rw [again]; simp)]
  have hA : tOutA c = [] := by unfold tOutA; rw [if_neg (by rw [beg]; simp)]
  have hq : tQuiet c = c := by
    unfold tQuiet
    cases c
    simp_all
  have hC : tOutC c = ([], c) := by
    unfold tOutC
    split
    · unfold tFresh
      exact tFreshN_no (by rw [hl]; intro q; exact absurd q.1 (by decide)) _
    · rfl
  have hD : tOutD c = ([], c) := by
    unfold tOutD
    rw [if_neg]
    rintro ⟨q1, q2, _⟩
    rcases hst with h | h
    · rw [h] at q1; exact absurd q1 (by decide)
    · rw [h.2] at q2; cases q2
  unfold tOut
  rw [if_neg (by rw [off]; simp), if_neg (by rw [gave]; simp), hA, hB]
  simp only
  rw [hq]
  unfold tOut2
  simp only [hC, hD, List.append_nil, List.nil_append]
  unfold tOutE
  rw [if_pos ⟨acks, rfl⟩]
/-- how far a receiver has come: got is received, k bytes came in order; P: what came early -/
structure Come (c : TConn) (s1 : Nat) (data got : List UInt8) (k : Nat) (P : Nat → Bool) : Prop where
  idle : Idle c
  n : c.out.n = 78
  src : c.src = 2049
  ended : c.out.ended = false
  strm : Strm c.inn s1 data k P
  lt : ∀ j, P j = true → j < data.length
  now : P k = false
  got : got ++ c.inn.ready = data.take k
  len : data.length ≤ 6000
/-- a piece comes -/
theorem Come.take {c : TConn} {s1 : Nat} {data got : List UInt8} {k : Nat} {P : Nat → Bool} (h : Come c s1 data got k P) (p l sq : Nat) (hl : p + l ≤ data.length) (h0 : 0 < l) (hs : sq = (s1 + p) % 4294967296) :
    ∃ k' P', Come (tTake c ⟨0, 0, sq, 78, 16, 9000, 0, (data.drop p).take l⟩) s1 data got k' P' ∧ (tTake c ⟨0, 0, sq, 78, 16, 9000, 0, (data.drop p).take l⟩).acks = true ∧ k ≤ k' ∧ (∀ j, j < k ∨ P j = true ∨ (p ≤ j ∧ j < p + l) → j < k' ∨ P' j = true) := by
  have hlen := h.len
  have hrl : c.inn.ready.length ≤ k := by
    have := congrArg List.length h.got
    rw [List.length_append, List.length_take] at this
    omega
  have hkl := h.strm.kl
  have hq : c.inn.q ≤ 16384 ∧ 10384 ≤ c.inn.q := by unfold TIn.q; omega
  have hdl : ((data.drop p).take l).length = l := by rw [List.length_take, List.length_drop]; omega
  obtain ⟨h1, h2⟩ := take_strm h.strm h.lt ⟨0, 0, sq, 78, 16, 9000, 0, (data.drop p).take l⟩ p hs (fun j b hb => by
    have hj : j < l := by
      have := (List.getElem?_eq_some_iff.1 hb).1
      simp only at this
      omega
    simp only at hb
    rw [List.getElem?_take_of_lt hj, List.getElem?_drop] at hb
    exact hb) (show tBit 16 1 = false by decide)
  simp only [hdl] at h1 h2
  have hk := take_ack_idle h.idle ⟨0, 0, sq, 78, 16, 9000, 0, (data.drop p).take l⟩ rfl h.n.symm h1.done
  obtain ⟨k', hk'⟩ : ∃ k', runP (addP P k c.inn.q p l) (c.inn.q + 1) k = k' := ⟨_, rfl⟩
  rw [hk'] at h1 h2
  have hge : k ≤ k' := by rw [← hk']; exact runP_ge _ _ _
  have hPl : ∀ j, addP P k c.inn.q p l j = true → j < data.length := by
    intro j hj
    rw [addP_iff] at hj
    rcases hj with hj | hj
    · exact h.lt j hj
    · omega
  have hk'l := h1.kl
  have hnow : addP P k c.inn.q p l k' = false := by
    rw [← hk']
    exact runP_end _ _ _ (by rw [hk']; omega)
  refine ⟨k', addP P k c.inn.q p l, ⟨hk.1, by rw [hk.2.2.2.2.2]; exact h.n, by rw [hk.2.2.2.1]; exact h.src, by rw [take_ack h.idle _ rfl h.n.symm]; exact h.ended, by rw [hk.2.1]; exact h1, hPl, hnow, ?_, h.len⟩, ?_, hge, ?_⟩
  · rw [hk.2.1, h2, ← List.append_assoc, h.got]
    obtain ⟨d, rfl⟩ : ∃ d, k' = k + d := ⟨k' - k, by omega⟩
    rw [Nat.add_sub_cancel_left, List.take_add]
  · rw [hk.2.2.1]
    simp only [hdl]
    simp [h0]
  · intro j hj
    rcases hj with hj | hj | hj
    · left; omega
    · right; rw [addP_iff]; exact .inl hj
    · by_cases hjk : j < k
      · left; omega
      · right
        rw [addP_iff]
        exact .inr (by omega)
theorem Come.out {c : TConn} {s1 : Nat} {data got : List UInt8} {k : Nat} {P : Nat → Bool} (h : Come c s1 data got k P) (b : Bool) : Come { c with acks := b } s1 data got k P := ⟨idle_acks h.idle b, h.n, h.src, h.ended, h.strm, h.lt, h.now, h.got, h.len⟩
theorem Come.recv {c : TConn} {s1 : Nat} {data got : List UInt8} {k : Nat} {P : Nat → Bool} (h : Come c s1 data got k P) : Come (tRecv c) s1 data (got ++ c.inn.ready) k P := by
  refine ⟨idle_recv h.idle, h.n, h.src, h.ended, ⟨h.strm.r, h.strm.early, fun j hj hkj => ?_, h.strm.told, h.strm.done, h.strm.len, h.strm.kl⟩, h.lt, h.now, ?_, h.len⟩
  · have := h.strm.win j hj hkj
    show j - k < 16384 - 0
    unfold TIn.q at this
    omega
  · show (got ++ c.inn.ready) ++ [] = _
    rw [List.append_nil]
    exact h.got
/-- where all has come -/
theorem Come.all {c : TConn} {s1 : Nat} {data got : List UInt8} {k : Nat} {P : Nat → Bool} (h : Come c s1 data got k P) (ha : ∀ j, j < data.length → j < k ∨ P j = true) : k = data.length := by
  have := h.strm.kl
  by_cases e : k < data.length
  · rcases ha k e with q | q
    · omega
    · rw [h.now] at q; cases q
  · omega
/-- the stream's end comes -/
theorem Come.fin {c : TConn} {s1 : Nat} {data got : List UInt8} {k : Nat} {P : Nat → Bool} (h : Come c s1 data got k P) (hr : c.inn.ready = []) (hk : k = data.length) (sq : Nat) (hs : sq = (s1 + data.length) % 4294967296) :
    ∃ c', tTake c ⟨0, 0, sq, 78, 17, 9000, 0, []⟩ = c' ∧ c'.state = 3 ∧ c'.inn.ready = [] ∧ c'.inn.r = (sq + 1) % 4294967296 ∧ ∃ s, tOut c' = ([s], { c' with acks := false }) ∧ s.ack = (sq + 1) % 4294967296 := by
  refine ⟨_, rfl, ?_⟩
  have hi := h.idle
  have hen := h.ended
  have hrr : c.inn.r = sq := by rw [h.strm.r, hs, hk]
  have h1 : tBit 17 4 = false := by decide
  have h2 : tBit 17 2 = false := by decide
  have h3 : tBit 17 16 = true := by decide
  have h4 : tBit 17 1 = true := by decide
  have hsq : sq < 4294967296 := by rw [hs]; exact Nat.mod_lt _ (by decide)
  have hnote : tNote c.inn ⟨0, 0, sq, 78, 17, 9000, 0, []⟩ = { c.inn with told := true, fin := sq } := by
    unfold tNote
    have e : (sq + ([] : List UInt8).length) % 4294967296 = sq := by simp; omega
    rw [if_pos ⟨h4, h.strm.told, by show mSub ((sq + ([] : List UInt8).length) % 4294967296) c.inn.r ≤ c.inn.q; rw [e, hrr, mSub_self]; omega⟩]
    show ({ c.inn with early := c.inn.early, told := true, fin := (sq + ([] : List UInt8).length) % 4294967296 } : TIn) = _
    rw [e]
  have hflow : tFlow (tNote c.inn ⟨0, 0, sq, 78, 17, 9000, 0, []⟩) = { c.inn with told := true, fin := sq, done := true, r := (sq + 1) % 4294967296, early := fun _ => none } := by
    rw [hnote]
    unfold tFlow tFlowN
    rw [if_neg (by show ¬ c.inn.done = true; rw [h.strm.done]; simp), if_pos ⟨rfl, hrr.symm⟩, ← hrr]
  have hT : tTake c ⟨0, 0, sq, 78, 17, 9000, 0, []⟩ = { c with out := { c.out with w := 9000 }, inn := { c.inn with told := true, fin := sq, done := true, r := (sq + 1) % 4294967296, early := fun _ => none }, state := 3, acks := true } := by
    unfold tTake
    rw [if_neg (by rw [hi.st]; decide), if_neg (by rw [h1]; simp), if_neg (by rw [h2]; simp), if_neg (by rw [h3]; simp), if_neg (by show ¬ tLess c.out.n 78 = true; rw [h.n, tLess_self]; simp), if_neg (by rw [hi.st]; intro q; exact absurd q.1 (by decide))]
    have e : ({ c with state := if c.state = 1 then 2 else c.state } : TConn) = c := by rw [hi.st]; rw [if_neg (by decide), ← hi.st]
    rw [e]
    unfold tTakeA
    rw [if_neg (by show ¬ tLess c.out.u 78 = true; rw [hi.un, h.n, tLess_self]; simp)]
    unfold tTakeB
    rw [if_neg (by show ¬ tLess 78 c.out.u = true; rw [hi.un, h.n, tLess_self]; simp), hflow, h4, hi.st]
    simp
  have hOut : tOut (tTake c ⟨0, 0, sq, 78, 17, 9000, 0, []⟩) = ([tSegment (tTake c ⟨0, 0, sq, 78, 17, 9000, 0, []⟩) c.out.n 16 []], { tTake c ⟨0, 0, sq, 78, 17, 9000, 0, []⟩ with acks := false }) := by
    rw [hT]
    exact out_calm { c with out := { c.out with w := 9000 }, inn := { c.inn with told := true, fin := sq, done := true, r := (sq + 1) % 4294967296, early := fun _ => none }, state := 3, acks := true } (.inr ⟨rfl, hen⟩) hi.off hi.gave hi.again hi.begin_ hi.bytes hi.sent rfl
  refine ⟨by rw [hT], by rw [hT]; exact hr, by rw [hT], _, hOut, ?_⟩
  show (tTake c ⟨0, 0, sq, 78, 17, 9000, 0, []⟩).inn.r = _
  rw [hT]
end Go.Proofs.Ytahlcjkcdgahkaa
