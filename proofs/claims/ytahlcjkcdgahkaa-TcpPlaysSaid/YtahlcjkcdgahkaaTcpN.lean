/- What goes out: plain. -/
import Derived.Test.YtahlcjkcdgahkaaTcpM
namespace Go.Proofs.Ytahlcjkcdgahkaa
open Go Go.RowKit

/-- but for the next number it is the same -/
def OnlyN (c c' : TConn) : Prop := c' = { c with out := { c.out with n := c'.out.n } }
theorem OnlyN.refl (c : TConn) : OnlyN c c := rfl
theorem OnlyN.trans {a b c : TConn} (h : OnlyN a b) (k : OnlyN b c) : OnlyN a c := by
  unfold OnlyN at *
  rw [k, h]
theorem OnlyN.inn {c c' : TConn} (h : OnlyN c c') : c'.inn = c.inn := by rw [h]
theorem OnlyN.state {c c' : TConn} (h : OnlyN c c') : c'.state = c.state := by rw [h]
theorem OnlyN.bytes {c c' : TConn} (h : OnlyN c c') : c'.out.bytes = c.out.bytes := by rw [h]
theorem tFreshN_ok (k : Nat) : ∀ c, OutOk c → OutOk (tFreshN k c).2 ∧ OnlyN c (tFreshN k c).2 ∧ (tFreshN k c).1.length ≤ k := by
  induction k with
  | zero => exact fun c h => ⟨h, rfl, Nat.le_refl _⟩
  | succ k ih =>
    intro c h
    by_cases hc : c.out.left > 0 ∧ c.room > 0
    · obtain ⟨q, hq⟩ : ∃ q : Nat, c.room = q := ⟨c.room.toNat, by omega⟩
      have hl : (q : Int) ≤ c.out.left := by
        have : c.room = min c.out.m (min c.out.left (c.out.w - (mSub c.out.n c.out.u : Int))) := rfl
        omega
      rw [tFreshN_yes hc.1 hq (by omega) k]
      obtain ⟨h1, h2, h3⟩ := ih _ (sentMore_ok h hl).1
      exact ⟨h1, OnlyN.trans (b := tSentMore c q) rfl h2, by simp; omega⟩
    · rw [tFreshN_no hc]
      exact ⟨h, rfl, by simp⟩
theorem tResent_ok {c : TConn} (h : OutOk c) : OutOk (tResent c).2 ∧ OnlyN c (tResent c).2 ∧ (tResent c).1.length ≤ 1 := by
  unfold tResent
  split
  · exact ⟨h, rfl, by simp⟩
  split
  · exact ⟨h, rfl, by simp⟩
  split
  · rename_i hl
    exact ⟨(sentMore_ok (q := 1) h (by omega)).1, rfl, by simp⟩
  · exact ⟨h, rfl, by simp⟩
theorem tOutB_ok {c : TConn} (h : OutOk c) : OutOk (tOutB c).2 ∧ OnlyN c (tOutB c).2 ∧ (tOutB c).1.length ≤ 1 := by
  unfold tOutB
  split
  · exact tResent_ok h
  · exact ⟨h, rfl, by simp⟩
theorem quiet_ok {c : TConn} (h : OutOk c) : OutOk (tQuiet c) := ⟨h.u, h.n, h.base, h.len, h.sent0, h.sent1, h.nu, h.all, h.fin, h.m0, h.m1, h.w0, h.w1, h.clock0, h.clock1, h.tries0, h.tries1, h.tries5, h.st⟩
theorem tOutC_ok {c : TConn} (h : OutOk c) : OutOk (tOutC c).2 ∧ OnlyN c (tOutC c).2 ∧ (tOutC c).1.length ≤ 65536 := by
  unfold tOutC
  split
  · obtain ⟨h1, h2, h3⟩ := tFreshN_ok c.out.left.toNat c h
    refine ⟨h1, h2, Nat.le_trans h3 ?_⟩
    have := h.len
    have := h.sent0
    unfold TOut.left
    omega
  · exact ⟨h, rfl, by simp⟩
theorem tOutD_ok {c : TConn} (h : OutOk c) : OutOk (tOutD c).2 ∧ (tOutD c).2.inn = c.inn ∧ (tOutD c).1.length ≤ 1 ∧ (tOutD c).2.out.bytes = c.out.bytes := by
  unfold tOutD
  split
  · rename_i hd
    obtain ⟨h1, _, h3⟩ := hd
    have hf : c.out.fin = false := by
      cases e : c.out.fin with
      | false => rfl
      | true => have := h.fin e; omega
    have a := h.sent0
    have b := h.sent1
    have e1 := h.n
    have e2 := h.base
    have e3 := h.u
    have e4 := h.nu
    have e5 := h.len
    have hm := mSub_n (o := c.out)
    rw [hf] at hm e4
    simp only [Bool.false_eq_true, if_false] at hm e4
    unfold TOut.left at h3
    have hs : ({ c.out with n := (c.out.n + 1) % 4294967296, fin := true } : TOut).sent = c.out.sent := by
      unfold TOut.sent
      simp only [if_true]
      have : mSub ((c.out.n + 1) % 4294967296) c.out.base = mSub c.out.n c.out.base + 1 := by unfold mSub at *; omega
      rw [this]
      rw [hf]
      simp only [Bool.false_eq_true, if_false]
      omega
    refine ⟨⟨h.u, Nat.mod_lt _ (by decide), h.base, h.len, ?_, ?_, ?_, fun _ => ?_, fun _ => .inl rfl, h.m0, h.m1, h.w0, h.w1, h.clock0, h.clock1, h.tries0, h.tries1, fun _ => h.tries5 (by omega), ⟨show (1 : Int) ≤ 4 by decide, show (4 : Int) ≤ 5 by decide⟩⟩, rfl, by simp, rfl⟩
    · show 0 ≤ ({ c.out with n := (c.out.n + 1) % 4294967296, fin := true } : TOut).sent
      rw [hs]; exact a
    · show ({ c.out with n := (c.out.n + 1) % 4294967296, fin := true } : TOut).sent ≤ _
      rw [hs]; exact b
    · show (mSub ((c.out.n + 1) % 4294967296) c.out.u : Int) ≤ ({ c.out with n := (c.out.n + 1) % 4294967296, fin := true } : TOut).sent + 1 + (if true then 1 else 0)
      rw [hs]
      have : mSub ((c.out.n + 1) % 4294967296) c.out.u ≤ mSub c.out.n c.out.u + 1 := by unfold mSub; omega
      simp only [if_true]
      omega
    · show ({ c.out with n := (c.out.n + 1) % 4294967296, fin := true } : TOut).sent = _
      rw [hs]
      show _ = (c.out.bytes.length : Int)
      omega
  · exact ⟨h, rfl, by simp, rfl⟩
theorem acks_ok {c : TConn} (h : OutOk c) (b : Bool) : OutOk { c with acks := b } := ⟨h.u, h.n, h.base, h.len, h.sent0, h.sent1, h.nu, h.all, h.fin, h.m0, h.m1, h.w0, h.w1, h.clock0, h.clock1, h.tries0, h.tries1, h.tries5, h.st⟩
theorem off_ok {c : TConn} (h : OutOk c) (b : Bool) : OutOk { c with off := b } := ⟨h.u, h.n, h.base, h.len, h.sent0, h.sent1, h.nu, h.all, h.fin, h.m0, h.m1, h.w0, h.w1, h.clock0, h.clock1, h.tries0, h.tries1, h.tries5, h.st⟩
/-- Out keeps what holds -/
theorem tOut_ok {c : TConn} (h : OutOk c) : OutOk (tOut c).2 ∧ (tOut c).2.inn = c.inn ∧ (tOut c).2.out.bytes = c.out.bytes := by
  unfold tOut
  split
  · exact ⟨h, rfl, rfl⟩
  split
  · exact ⟨off_ok h _, rfl, rfl⟩
  · unfold tOut2
    have h2 := tOutB_ok h
    have h3 := tOutC_ok (quiet_ok h2.1)
    have h4 := tOutD_ok h3.1
    refine ⟨acks_ok h4.1 _, ?_, ?_⟩
    · show (tOutD (tOutC (tQuiet (tOutB c).2)).2).2.inn = c.inn
      rw [h4.2.1, h3.2.1.inn]
      exact h2.2.1.inn
    · show (tOutD (tOutC (tQuiet (tOutB c).2)).2).2.out.bytes = c.out.bytes
      rw [h4.2.2.2, h3.2.1.bytes]
      exact h2.2.1.bytes
end Go.Proofs.Ytahlcjkcdgahkaa
