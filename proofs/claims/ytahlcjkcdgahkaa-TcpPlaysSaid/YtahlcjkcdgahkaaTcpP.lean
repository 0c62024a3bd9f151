/- What holds of a connection stays so. No program is walked here. -/
import Derived.Test.YtahlcjkcdgahkaaTcpN
namespace Go.Proofs.Ytahlcjkcdgahkaa
open Go Go.RowKit

theorem tNew_ok (s : TSeg) (first : Nat) (hf : first < 4294967296) (hw : 0 ≤ s.window ∧ s.window ≤ 65535) : OutOk (tNew s first) ∧ InOk (tNew s first).inn := by
  refine ⟨⟨hf, Nat.mod_lt _ (by decide), Nat.mod_lt _ (by decide), by simp [tNew], ?_, ?_, ?_, fun h => ?_, fun h => ?_, ?_, ?_, hw.1, hw.2, by simp [tNew], by simp [tNew], by simp [tNew], by simp [tNew], fun _ => by simp [tNew], by simp [tNew]⟩, ⟨by simp [tNew], Nat.mod_lt _ (by decide), by simp [tNew], fun k _ h => absurd rfl h⟩⟩
  · show (0 : Int) ≤ TOut.sent _
    unfold TOut.sent tNew mSub
    simp only [Bool.false_eq_true, if_false]
    omega
  · unfold TOut.sent tNew mSub
    simp only [Bool.false_eq_true, if_false, List.length_nil]
    omega
  · unfold TOut.sent tNew mSub
    simp only [Bool.false_eq_true, if_false]
    omega
  · simp [tNew] at h
  · simp [tNew] at h
  · show 64 ≤ tMss s.mss
    unfold tMss
    omega
  · show tMss s.mss ≤ 1460
    unfold tMss
    omega
/-- an answer that may be -/
theorem answered_ok {c : TConn} (h : OutOk c) {ack : Nat} (ha : ack < 4294967296) (h1 : tLess c.out.u ack = true) (h2 : tLess c.out.n ack = false) (b : Bool) :
    OutOk { c with out := tAnswered c.out ack, again := b } ∧ (tAnswered c.out ack).bytes.length ≤ c.out.bytes.length ∧ (tAnswered c.out ack).n = c.out.n := by
  have hm := mSub_n (o := c.out)
  have a := h.sent0
  have d := h.sent1
  have e1 := h.n
  have e2 := h.base
  have e3 := h.u
  have e4 := h.nu
  have e5 := h.len
  have hall := h.all
  obtain ⟨ff, hff⟩ : ∃ ff : Int, (if c.out.fin = true then (1 : Int) else 0) = ff := ⟨_, rfl⟩
  rw [hff] at hm e4
  have hff1 : 0 ≤ ff ∧ ff ≤ 1 := by rw [← hff]; split <;> simp
  have hsl : c.out.fin = false → ff = 0 := fun q => by rw [← hff, q]; rfl
  have hnu := h.nu'
  unfold tLess at h1 h2
  simp only [decide_eq_true_eq, decide_eq_false_iff_not] at h1 h2
  -- the answer lies in [base, n]
  have hx : mSub c.out.n ack + 1 ≤ mSub c.out.n c.out.u := by
    unfold mSub at *
    omega
  obtain ⟨x, hxx⟩ : ∃ x, mSub ack c.out.base = x := ⟨_, rfl⟩
  have hxn : mSub c.out.n ack + x = mSub c.out.n c.out.base := by
    rw [← hxx]
    have h3 : (mSub c.out.n ack : Int) ≤ mSub c.out.n c.out.base := by omega
    unfold mSub at *
    omega
  have hl : tLess c.out.base ack = decide (1 ≤ x) := by
    unfold tLess
    have : x ≤ 65537 := by omega
    rw [← hxx] at this ⊢
    unfold mSub at *
    congr 1
    simp only [eq_iff_iff]
    omega
  have ht : tTaken c.out ack = min x c.out.bytes.length := by
    unfold tTaken
    rw [hl]
    by_cases h0 : 1 ≤ x
    · rw [if_pos (by simpa using h0), ← hxx]
      rfl
    · rw [if_neg (by simpa using h0)]
      omega
  obtain ⟨k, hk⟩ : ∃ k, tTaken c.out ack = k := ⟨_, rfl⟩
  have hkk : k = min x c.out.bytes.length := by rw [← hk, ht]
  have hb : (c.out.base + k) % 4294967296 < 4294967296 := Nat.mod_lt _ (by decide)
  have hnb : mSub c.out.n ((c.out.base + k) % 4294967296) = mSub c.out.n c.out.base - k := by
    have : k ≤ mSub c.out.n c.out.base := by omega
    unfold mSub at *
    omega
  have hs : (tAnswered c.out ack).sent = c.out.sent - k := by
    unfold TOut.sent tAnswered
    rw [hk]
    simp only
    rw [hnb]
    have : k ≤ mSub c.out.n c.out.base := by omega
    omega
  have hlen : (tAnswered c.out ack).bytes.length = c.out.bytes.length - k := by
    unfold tAnswered
    rw [hk]
    simp
  have hfin : (tAnswered c.out ack).fin = c.out.fin := rfl
  have hn : (tAnswered c.out ack).n = c.out.n := rfl
  have hsk : (k : Int) ≤ c.out.sent := by
    cases hf : c.out.fin with
    | true => have := hall hf; omega
    | false => have := hsl hf; omega
  refine ⟨⟨ha, h.n, ?_, ?_, ?_, ?_, ?_, fun e => ?_, h.fin, h.m0, h.m1, h.w0, h.w1, by simp [tAnswered], by simp [tAnswered], by simp [tAnswered], by simp [tAnswered], fun _ => by simp [tAnswered], h.st⟩, by rw [hlen]; omega, hn⟩
  · show (c.out.base + tTaken c.out ack) % 4294967296 < _
    rw [hk]; exact hb
  · show (tAnswered c.out ack).bytes.length ≤ _
    rw [hlen]; omega
  · show 0 ≤ (tAnswered c.out ack).sent
    rw [hs]; omega
  · show (tAnswered c.out ack).sent ≤ ((tAnswered c.out ack).bytes.length : Int)
    rw [hs, hlen]; omega
  · show (mSub c.out.n ack : Int) ≤ (tAnswered c.out ack).sent + 1 + (if c.out.fin then 1 else 0)
    rw [hs, hff]
    omega
  · show (tAnswered c.out ack).sent = ((tAnswered c.out ack).bytes.length : Int)
    rw [hs, hlen, hall e]; omega
theorem tTakeB_ok {c : TConn} (h : OutOk c) (hi : InOk c.inn) (s : TSeg) (hw : 0 ≤ s.window ∧ s.window ≤ 65535) : OutOk (tTakeB c s) ∧ InOk (tTakeB c s).inn ∧ (tTakeB c s).out.bytes = c.out.bytes := by
  have hst : (tTakeB c s).state = 3 ∨ (tTakeB c s).state = c.state := by
    unfold tTakeB
    simp only
    split
    · exact .inl rfl
    · exact .inr rfl
  have hst4 : c.state = 4 ∨ c.state = 5 → (tTakeB c s).state = c.state := by
    intro q
    unfold tTakeB
    simp only
    rw [if_neg (fun h => by have := h.2; omega)]
  have hst5 : (tTakeB c s).state ≠ 5 → c.state ≠ 5 := by
    intro q e
    exact q (by rw [hst4 (.inr e), e])
  have hst1 : 1 ≤ (tTakeB c s).state ∧ (tTakeB c s).state ≤ 5 := by have := h.st; omega
  refine ⟨?_, tFlow_ok (tNote_ok hi s), ?_⟩
  · by_cases hl : tLess s.ack c.out.u = true
    · have e : (tTakeB c s) = { c with inn := (tTakeB c s).inn, state := (tTakeB c s).state, acks := (tTakeB c s).acks } := by
        unfold tTakeB
        simp only
        rw [if_pos hl]
      rw [e]
      exact ⟨h.u, h.n, h.base, h.len, h.sent0, h.sent1, h.nu, h.all, fun q => by show (tTakeB c s).state = 4 ∨ (tTakeB c s).state = 5; rw [hst4 (h.fin q)]; exact h.fin q, h.m0, h.m1, h.w0, h.w1, h.clock0, h.clock1, h.tries0, h.tries1, fun q => h.tries5 (hst5 q), hst1⟩
    · have e : (tTakeB c s) = { c with inn := (tTakeB c s).inn, out := { c.out with w := s.window }, state := (tTakeB c s).state, acks := (tTakeB c s).acks } := by
        unfold tTakeB
        simp only
        rw [if_neg hl]
      rw [e]
      exact ⟨h.u, h.n, h.base, h.len, h.sent0, h.sent1, h.nu, h.all, fun q => by show (tTakeB c s).state = 4 ∨ (tTakeB c s).state = 5; rw [hst4 (h.fin q)]; exact h.fin q, h.m0, h.m1, hw.1, hw.2, h.clock0, h.clock1, h.tries0, h.tries1, fun q => h.tries5 (hst5 q), hst1⟩
  · unfold tTakeB
    simp only
    split <;> rfl
theorem state_ok {c : TConn} (h : OutOk c) {st : Int} (off : Bool) (h1 : 1 ≤ st ∧ st ≤ 5) (h4 : c.state = 4 ∨ c.state = 5 → st = 4 ∨ st = 5) (h5 : st ≠ 5 → c.state ≠ 5) : OutOk { c with state := st, off := off } :=
  ⟨h.u, h.n, h.base, h.len, h.sent0, h.sent1, h.nu, h.all, fun q => h4 (h.fin q), h.m0, h.m1, h.w0, h.w1, h.clock0, h.clock1, h.tries0, h.tries1, fun q => h.tries5 (h5 q), h1⟩
theorem begin_ok {c : TConn} (h : OutOk c) (b : Bool) : OutOk { c with begin_ := b } := ⟨h.u, h.n, h.base, h.len, h.sent0, h.sent1, h.nu, h.all, h.fin, h.m0, h.m1, h.w0, h.w1, h.clock0, h.clock1, h.tries0, h.tries1, h.tries5, h.st⟩
theorem tTakeA_ok {c : TConn} (h : OutOk c) (hi : InOk c.inn) (s : TSeg) (hw : 0 ≤ s.window ∧ s.window ≤ 65535) (ha : s.ack < 4294967296) (hn : tLess c.out.n s.ack = false) : OutOk (tTakeA c s) ∧ InOk (tTakeA c s).inn ∧ (tTakeA c s).out.bytes.length ≤ c.out.bytes.length := by
  unfold tTakeA
  split
  · rename_i hl
    obtain ⟨h1, h2, _⟩ := answered_ok h ha hl hn false
    split
    · exact ⟨state_ok h1 true ⟨by decide, by decide⟩ (fun _ => .inr rfl) (fun q => absurd rfl q), hi, h2⟩
    · have := tTakeB_ok h1 hi s hw
      exact ⟨this.1, this.2.1, by rw [this.2.2]; exact h2⟩
  · have := tTakeB_ok h hi s hw
    exact ⟨this.1, this.2.1, by rw [this.2.2]; exact Nat.le_refl _⟩
/-- Take keeps what holds -/
theorem tTake_ok {c : TConn} (h : OutOk c) (hi : InOk c.inn) (s : TSeg) (hw : 0 ≤ s.window ∧ s.window ≤ 65535) (ha : s.ack < 4294967296) : OutOk (tTake c s) ∧ InOk (tTake c s).inn ∧ (tTake c s).out.bytes.length ≤ c.out.bytes.length := by
  unfold tTake
  split
  · exact ⟨h, hi, Nat.le_refl _⟩
  split
  · split
    · exact ⟨state_ok h true ⟨by decide, by decide⟩ (fun _ => .inr rfl) (fun q => absurd rfl q), hi, Nat.le_refl _⟩
    · exact ⟨h, hi, Nat.le_refl _⟩
  split
  · split
    · exact ⟨begin_ok h _, hi, Nat.le_refl _⟩
    · exact ⟨acks_ok h _, hi, Nat.le_refl _⟩
  split
  · exact ⟨h, hi, Nat.le_refl _⟩
  split
  · exact ⟨acks_ok h _, hi, Nat.le_refl _⟩
  rename_i h5 _ _ _ hn
  split
  · exact ⟨h, hi, Nat.le_refl _⟩
  · have hn' : tLess c.out.n s.ack = false := Bool.eq_false_iff.2 hn
    have hst : OutOk { c with state := if c.state = 1 then 2 else c.state } := by
      have := state_ok (st := if c.state = 1 then 2 else c.state) h c.off (by have := h.st; split <;> omega) (by intro q; split <;> omega) (by intro _; exact h5)
      exact this
    exact tTakeA_ok hst hi s hw ha hn'
theorem tRecv_ok {c : TConn} (h : OutOk c) (hi : InOk c.inn) : OutOk (tRecv c) ∧ InOk (tRecv c).inn := by
  refine ⟨⟨h.u, h.n, h.base, h.len, h.sent0, h.sent1, h.nu, h.all, h.fin, h.m0, h.m1, h.w0, h.w1, h.clock0, h.clock1, h.tries0, h.tries1, h.tries5, h.st⟩, ⟨by simp [tRecv], hi.r, hi.fin, fun k hk hn => ?_⟩⟩
  have := hi.early k hk hn
  unfold tRecv TIn.q at *
  simp only [List.length_nil]
  omega
theorem tSend_ok {c : TConn} (h : OutOk c) (b : List UInt8) : OutOk (tSend c b).1 ∧ (tSend c b).1.inn = c.inn := by
  unfold tSend
  split
  · exact ⟨h, rfl⟩
  split
  · exact ⟨h, rfl⟩
  · rename_i h1 h2
    have hf : c.out.fin = false := by
      cases e : c.out.fin with
      | false => rfl
      | true =>
        have := h.fin e
        exact absurd (Or.inr (by omega)) h1
    refine ⟨⟨h.u, h.n, h.base, ?_, h.sent0, ?_, h.nu, fun e => ?_, h.fin, h.m0, h.m1, h.w0, h.w1, h.clock0, h.clock1, h.tries0, h.tries1, h.tries5, h.st⟩, rfl⟩
    · show (c.out.bytes ++ b).length ≤ _
      rw [List.length_append]
      omega
    · show c.out.sent ≤ ((c.out.bytes ++ b).length : Int)
      rw [List.length_append]
      have := h.sent1
      push_cast
      omega
    · have e2 : c.out.fin = true := e
      rw [hf] at e2
      cases e2
theorem tEnd_ok {c : TConn} (h : OutOk c) : OutOk (tEnd c) := ⟨h.u, h.n, h.base, h.len, h.sent0, h.sent1, h.nu, h.all, h.fin, h.m0, h.m1, h.w0, h.w1, h.clock0, h.clock1, h.tries0, h.tries1, h.tries5, h.st⟩
theorem tTick_ok {c : TConn} (h : OutOk c) (n : Int) : OutOk (tTick c n) ∧ (tTick c n).inn = c.inn ∧ (tTick c n).out.bytes = c.out.bytes := by
  have hc := h.clock0
  unfold tTick
  split
  · exact ⟨⟨h.u, h.n, h.base, h.len, h.sent0, h.sent1, h.nu, h.all, h.fin, h.m0, h.m1, h.w0, h.w1, Int.le_refl _, by simp, h.tries0, h.tries1, h.tries5, h.st⟩, rfl, rfl⟩
  rename_i h5
  have ht5 : c.state ≠ 5 := fun e => h5 (.inl e)
  have ht := h.tries5 ht5
  have h0 := h.tries0
  split
  · rename_i hlt
    refine ⟨⟨h.u, h.n, h.base, h.len, h.sent0, h.sent1, h.nu, h.all, h.fin, h.m0, h.m1, h.w0, h.w1, ?_, ?_, h.tries0, h.tries1, h.tries5, h.st⟩, rfl, rfl⟩
    · show 0 ≤ c.out.clock + _
      omega
    · show c.out.clock + _ ≤ 12800
      have hp : (200 : Int) * 2 ^ c.out.tries.toNat ≤ 200 * 2 ^ 6 := by
        have h6 : c.out.tries.toNat ≤ 6 := by omega
        have : (2 : Nat) ^ c.out.tries.toNat ≤ 2 ^ 6 := Nat.pow_le_pow_right (by decide) h6
        have : ((2 ^ c.out.tries.toNat : Nat) : Int) ≤ ((2 ^ 6 : Nat) : Int) := by exact_mod_cast this
        push_cast at this
        omega
      omega
  split
  · rename_i h6
    exact ⟨⟨h.u, h.n, h.base, h.len, h.sent0, h.sent1, h.nu, h.all, fun _ => .inr rfl, h.m0, h.m1, h.w0, h.w1, Int.le_refl _, by simp, by show 0 ≤ c.out.tries + 1; omega, by show c.out.tries + 1 ≤ 6; omega, fun q => absurd rfl q, ⟨show (1 : Int) ≤ 5 by decide, show (5 : Int) ≤ 5 by decide⟩⟩, rfl, rfl⟩
  rename_i h6
  split
  · exact ⟨⟨h.u, h.n, h.base, h.len, h.sent0, h.sent1, h.nu, h.all, h.fin, h.m0, h.m1, h.w0, h.w1, Int.le_refl _, by simp, by show 0 ≤ c.out.tries + 1; omega, by show c.out.tries + 1 ≤ 6; omega, fun _ => by show c.out.tries + 1 ≤ 5; omega, h.st⟩, rfl, rfl⟩
  · exact ⟨⟨h.u, h.n, h.base, h.len, h.sent0, h.sent1, h.nu, h.all, h.fin, h.m0, h.m1, h.w0, h.w1, Int.le_refl _, by simp, by show 0 ≤ c.out.tries + 1; omega, by show c.out.tries + 1 ≤ 6; omega, fun _ => by show c.out.tries + 1 ≤ 5; omega, h.st⟩, rfl, rfl⟩
end Go.Proofs.Ytahlcjkcdgahkaa
