/- What holds of a connection that both sides play, in plain words. No program is walked here. -/
import Derived.Test.YtahlcjkcdgahkaaTcpP
namespace Go.Proofs.Ytahlcjkcdgahkaa
open Go Go.RowKit

/-- what holds of a connection that is played, beside InOk and OutOk -/
structure BaseOk (c : TConn) : Prop where
  s1 : c.state = 1 → c.out.bytes = [] ∧ c.out.n = (c.out.u + 1) % 4294967296 ∧ c.out.base = c.out.n ∧ c.out.fin = false ∧ c.inn.done = false ∧ c.again = false
  base : c.state = 2 ∨ c.state = 3 ∨ c.state = 4 → c.out.base = c.out.u
  done : c.state = 2 → c.inn.done = false
  don2 : c.state = 3 ∨ c.state = 4 → c.inn.done = true
  fin : c.state = 4 → c.out.fin = true ∧ c.out.u ≠ c.out.n
  gave : c.gave = true → c.state = 5
  off : c.off = true → c.state = 5
  five : c.state = 5 → c.gave = true ∨ c.off = true
  clock : c.state ≠ 5 → c.out.clock < 200 * 2 ^ c.out.tries.toNat
  told : c.inn.done = true → c.inn.told = true

theorem tFlow_done {i : TIn} (h : i.done = true) : tFlow i = i := by
  unfold tFlow tFlowN
  rw [if_pos h]
theorem tFlowN_told (k : Nat) : ∀ i, (tFlowN k i).told = i.told ∧ (tFlowN k i).fin = i.fin ∧ ((tFlowN k i).done = true → i.done = true ∨ i.told = true) := by
  induction k with
  | zero => exact fun i => ⟨rfl, rfl, fun h => .inl h⟩
  | succ k ih =>
    intro i
    unfold tFlowN
    split
    · exact ⟨rfl, rfl, fun h => .inl h⟩
    split
    · rename_i h
      exact ⟨rfl, rfl, fun _ => .inr h.1⟩
    split
    · exact ⟨rfl, rfl, fun h => .inl h⟩
    · rename_i b hb
      have := ih { i with early := fun x => if x = i.r then none else i.early x, ready := i.ready ++ [b], r := (i.r + 1) % 4294967296 }
      exact ⟨this.1, this.2.1, this.2.2⟩
theorem tNote_done (i : TIn) (s : TSeg) : (tNote i s).done = i.done ∧ (i.told = true → (tNote i s).told = true) ∧ (tNote i s).r = i.r ∧ (tNote i s).ready = i.ready := by
  unfold tNote
  split
  · exact ⟨rfl, fun _ => rfl, rfl, rfl⟩
  · exact ⟨rfl, fun h => h, rfl, rfl⟩
theorem tNote_fin (i : TIn) (s : TSeg) (h : i.told = true) : (tNote i s).told = true ∧ (tNote i s).fin = i.fin := by
  unfold tNote
  rw [if_neg (by simp [h])]
  exact ⟨h, rfl⟩
theorem flow_told {i : TIn} (h : i.done = true → i.told = true) (s : TSeg) : (tFlow (tNote i s)).done = true → (tFlow (tNote i s)).told = true := by
  intro hd
  have h1 := tFlowN_told ((tNote i s).q + 1) (tNote i s)
  have h2 := tNote_done i s
  unfold tFlow at hd ⊢
  rw [h1.1]
  rcases h1.2.2 hd with q | q
  · rw [h2.1] at q
    exact h2.2.1 (h q)
  · exact q
theorem flow_kept {i : TIn} (h : i.done = true) (ht : i.told = true) (s : TSeg) : (tFlow (tNote i s)).done = true ∧ (tFlow (tNote i s)).told = true ∧ (tFlow (tNote i s)).fin = i.fin ∧ (tFlow (tNote i s)).r = i.r ∧ (tFlow (tNote i s)).ready = i.ready := by
  have h2 := tNote_done i s
  have h3 := tNote_fin i s ht
  rw [tFlow_done (by rw [h2.1]; exact h)]
  exact ⟨by rw [h2.1]; exact h, h3.1, h3.2, h2.2.2.1, h2.2.2.2⟩
theorem ring_ans (u n ack : Nat) (hu : u < 4294967296) (hn : n < 4294967296) (ha : ack < 4294967296) (h1 : tLess u ack = true) (h2 : tLess n ack = false) (hs : mSub n u ≤ 65538) : 1 ≤ mSub ack u ∧ mSub ack u ≤ mSub n u := by
  unfold tLess at h1 h2
  unfold mSub at *
  simp only [decide_eq_true_eq, decide_eq_false_iff_not] at h1 h2
  omega
theorem ring_back (u ack : Nat) (hu : u < 4294967296) (ha : ack < 4294967296) : (u + mSub ack u) % 4294967296 = ack := by unfold mSub; omega
theorem ring_ne (u n ack : Nat) (hu : u < 4294967296) (hn : n < 4294967296) (ha : ack < 4294967296) (h : mSub ack u = mSub n u) : ack = n := by
  unfold mSub at h
  omega
/-- what is answered: the base goes with it -/
theorem ans_base {c : TConn} (h : OutOk c) (hb : c.out.base = c.out.u) {ack : Nat} (ha : ack < 4294967296) (h1 : tLess c.out.u ack = true) (h2 : tLess c.out.n ack = false) (hne : c.out.fin = true → ack ≠ c.out.n) :
    (tAnswered c.out ack).base = ack ∧ tTaken c.out ack = mSub ack c.out.u ∧ mSub ack c.out.u ≤ c.out.bytes.length := by
  obtain ⟨r1, r2⟩ := ring_ans c.out.u c.out.n ack h.u h.n ha h1 h2 h.nu'
  have hs := h.sent1
  unfold TOut.sent at hs
  rw [hb] at hs
  have hle : mSub ack c.out.u ≤ c.out.bytes.length := by
    cases hf : c.out.fin with
    | false =>
      rw [hf, if_neg (by simp)] at hs
      omega
    | true =>
      rw [hf, if_pos rfl] at hs
      have : mSub ack c.out.u ≠ mSub c.out.n c.out.u := fun q => hne hf (ring_ne _ _ _ h.u h.n ha q)
      omega
  have e : tTaken c.out ack = mSub ack c.out.u := by
    unfold tTaken
    rw [hb, h1, if_pos rfl]
    show min (mSub ack c.out.u) _ = _
    omega
  refine ⟨?_, e, hle⟩
  unfold tAnswered
  show (c.out.base + tTaken c.out ack) % 4294967296 = ack
  rw [e, hb]
  exact ring_back _ _ h.u ha
theorem clock_pos (t : Int) : (0 : Int) < 200 * 2 ^ t.toNat := by
  have : 0 < 2 ^ t.toNat := Nat.pow_pos (by decide)
  have : ((0 : Nat) : Int) < ((2 ^ t.toNat : Nat) : Int) := by exact_mod_cast this
  push_cast at this
  omega
theorem baseB {c : TConn} (hb : BaseOk c) (s : TSeg) (h1 : c.state ≠ 1) : BaseOk (tTakeB c s) := by
  have ht := flow_told hb.told s
  refine ⟨fun e => ?_, fun e => ?_, fun e => ?_, fun e => ?_, fun e => ?_, fun e => ?_, fun e => ?_, fun e => ?_, fun e => ?_, ht⟩
  · exfalso
    unfold tTakeB at e
    simp only at e
    split at e <;> omega
  · unfold tTakeB at e ⊢
    simp only at e ⊢
    have e' : c.state = 2 ∨ c.state = 3 ∨ c.state = 4 := by split at e <;> omega
    split <;> exact hb.base e'
  · unfold tTakeB at e ⊢
    simp only at e ⊢
    split at e
    · omega
    · rename_i hn
      cases hd : (tFlow (tNote c.inn s)).done with
      | false => rfl
      | true => exact absurd ⟨hd, e⟩ hn
  · unfold tTakeB at e ⊢
    simp only at e ⊢
    split at e
    · rename_i hn; exact hn.1
    · have hd := hb.don2 e
      exact (flow_kept hd (hb.told hd) s).1
  · unfold tTakeB at e ⊢
    simp only at e ⊢
    split at e
    · omega
    · have := hb.fin e
      split <;> exact this
  · have := hb.gave e
    unfold tTakeB
    simp only
    rw [if_neg (by omega)]
    exact this
  · have := hb.off e
    unfold tTakeB
    simp only
    rw [if_neg (by omega)]
    exact this
  · have e' : c.state = 5 := by
      unfold tTakeB at e
      simp only at e
      split at e <;> omega
    exact hb.five e'
  · have e' : c.state ≠ 5 := by
      intro q
      refine e ?_
      unfold tTakeB
      simp only
      rw [if_neg (by omega)]
      exact q
    have := hb.clock e'
    unfold tTakeB
    simp only
    split <;> exact this
theorem baseA {c : TConn} (h : OutOk c) (hb : BaseOk c) (s : TSeg) (ha : s.ack < 4294967296) (hn : tLess c.out.n s.ack = false) (h1 : c.state = 2 ∨ c.state = 3 ∨ c.state = 4) : BaseOk (tTakeA c s) := by
  unfold tTakeA
  split
  · rename_i hl
    split
    · rename_i h4
      refine ⟨fun e => (by simp at e), fun e => (by simp at e), fun e => (by simp at e), fun e => (by simp at e), fun e => (by simp at e), fun _ => rfl, fun _ => rfl, fun _ => .inr rfl, fun e => absurd rfl e, hb.told⟩
    · rename_i h4
      refine baseB ?_ s (show c.state ≠ 1 by omega)
      have hbase := hb.base h1
      have hab : (tAnswered c.out s.ack).base = s.ack := by
        refine (ans_base h hbase ha hl hn (fun hf q => ?_)).1
        have := h.fin hf
        exact h4 ⟨by omega, q⟩
      refine ⟨fun e => ?_, fun _ => hab, hb.done, hb.don2, fun e => ⟨(hb.fin e).1, fun q => h4 ⟨e, q⟩⟩, fun e => ?_, fun e => ?_, fun e => ?_, fun _ => clock_pos 0, hb.told⟩
      · have e' : c.state = 1 := e
        omega
      · exact hb.gave e
      · exact hb.off e
      · exact hb.five e
  · exact baseB hb s (by omega)
theorem tTake_base {c : TConn} (h : OutOk c) (hb : BaseOk c) (s : TSeg) (ha : s.ack < 4294967296) : BaseOk (tTake c s) := by
  unfold tTake
  split
  · exact hb
  rename_i h5
  split
  · split
    · exact ⟨fun e => (by simp at e), fun e => (by simp at e), fun e => (by simp at e), fun e => (by simp at e), fun e => (by simp at e), fun _ => rfl, fun _ => rfl, fun _ => .inr rfl, fun e => absurd rfl e, hb.told⟩
    · exact hb
  split
  · split <;> exact ⟨hb.s1, hb.base, hb.done, hb.don2, hb.fin, hb.gave, hb.off, hb.five, hb.clock, hb.told⟩
  split
  · exact hb
  split
  · exact ⟨hb.s1, hb.base, hb.done, hb.don2, hb.fin, hb.gave, hb.off, hb.five, hb.clock, hb.told⟩
  rename_i hn
  split
  · exact hb
  rename_i hno
  have hn' : tLess c.out.n s.ack = false := Bool.eq_false_iff.2 hn
  by_cases h1 : c.state = 1
  · have hack : s.ack = c.out.n := Classical.byContradiction fun q => hno ⟨h1, q⟩
    obtain ⟨hby, hnu, hba, hfi, hdo, hag⟩ := hb.s1 h1
    rw [if_pos h1]
    have hu := h.u
    have hlu : tLess c.out.u s.ack = true := by
      rw [hack, hnu]
      unfold tLess
      simp only [decide_eq_true_eq]
      omega
    unfold tTakeA
    simp only
    rw [if_pos hlu, if_neg (by omega)]
    refine baseB ?_ s (show (2 : Int) ≠ 1 by decide)
    have hta : (tAnswered c.out s.ack).base = s.ack := by
      unfold tAnswered tTaken
      rw [hack, hba, hby]
      have hnn := h.n
      simp
      omega
    refine ⟨fun e => absurd (show (2 : Int) = 1 from e) (by decide), fun _ => hta, fun _ => hdo, fun e => by (have e : (2 : Int) = 3 ∨ (2 : Int) = 4 := e); omega, fun e => absurd (show (2 : Int) = 4 from e) (by decide), fun e => ?_, fun e => ?_, fun e => absurd (show (2 : Int) = 5 from e) (by decide), fun _ => clock_pos 0, hb.told⟩
    · have := hb.gave e; omega
    · have := hb.off e; omega
  · rw [if_neg h1]
    exact baseA h hb s ha hn' (by have := h.st; omega)
theorem tTick_base {c : TConn} (hb : BaseOk c) (n : Int) : BaseOk (tTick c n) := by
  unfold tTick
  split
  · exact ⟨hb.s1, hb.base, hb.done, hb.don2, hb.fin, hb.gave, hb.off, hb.five, fun _ => clock_pos _, hb.told⟩
  rename_i h5
  have ht5 : c.state ≠ 5 := fun e => h5 (.inl e)
  split
  · rename_i hlt
    exact ⟨hb.s1, hb.base, hb.done, hb.don2, hb.fin, hb.gave, hb.off, hb.five, fun _ => hlt, hb.told⟩
  split
  · exact ⟨fun e => (by simp at e), fun e => (by simp at e), fun e => (by simp at e), fun e => (by simp at e), fun e => (by simp at e), fun _ => rfl, fun _ => rfl, fun _ => .inl rfl, fun e => absurd rfl e, hb.told⟩
  split
  · exact ⟨hb.s1, hb.base, hb.done, hb.don2, hb.fin, hb.gave, hb.off, hb.five, fun _ => clock_pos _, hb.told⟩
  · rename_i h1
    exact ⟨fun e => absurd e h1, hb.base, hb.done, hb.don2, hb.fin, hb.gave, hb.off, hb.five, fun _ => clock_pos _, hb.told⟩
theorem tSend_base {c : TConn} (hb : BaseOk c) (b : List UInt8) : BaseOk (tSend c b).1 := by
  unfold tSend
  split
  · exact hb
  split
  · exact hb
  · rename_i h1 _
    exact ⟨fun e => by exfalso; have e' : c.state = 1 := e; exact h1 (.inr (by omega)), hb.base, hb.done, hb.don2, hb.fin, hb.gave, hb.off, hb.five, hb.clock, hb.told⟩
theorem tEnd_base {c : TConn} (hb : BaseOk c) : BaseOk (tEnd c) := ⟨hb.s1, hb.base, hb.done, hb.don2, hb.fin, hb.gave, hb.off, hb.five, hb.clock, hb.told⟩
theorem tRecv_base {c : TConn} (hb : BaseOk c) : BaseOk (tRecv c) := ⟨hb.s1, hb.base, hb.done, hb.don2, hb.fin, hb.gave, hb.off, hb.five, hb.clock, hb.told⟩
theorem tNew_base (s : TSeg) (first : Nat) : BaseOk (tNew s first) :=
  ⟨fun _ => ⟨rfl, rfl, rfl, rfl, rfl, rfl⟩, fun e => absurd e (by simp [tNew]), fun e => absurd e (by simp [tNew]), fun e => absurd e (by simp [tNew]), fun e => absurd e (by simp [tNew]), fun e => absurd e (by simp [tNew]), fun e => absurd e (by simp [tNew]), fun e => absurd e (by simp [tNew]), fun _ => clock_pos 0, fun e => absurd e (by simp [tNew])⟩
/-- Out's steps -/
theorem out_base {c : TConn} (hb : BaseOk c) (hs : c.state ≠ 1) (n : Nat) (h4 : c.state = 4 → c.out.u ≠ n) : BaseOk { c with out := { c.out with n := n } } :=
  ⟨fun e => absurd e hs, hb.base, hb.done, hb.don2, fun e => ⟨(hb.fin e).1, h4 e⟩, hb.gave, hb.off, hb.five, hb.clock, hb.told⟩
theorem quiet_base {c : TConn} (hb : BaseOk c) (b a : Bool) : BaseOk { c with begin_ := b, again := false, acks := a } :=
  ⟨fun e => by obtain ⟨h1, h2, h3, h4, h5, _⟩ := hb.s1 e; exact ⟨h1, h2, h3, h4, h5, rfl⟩, hb.base, hb.done, hb.don2, hb.fin, hb.gave, hb.off, hb.five, hb.clock, hb.told⟩
theorem tResent_base {c : TConn} (hb : BaseOk c) : BaseOk (tResent c).2 := by
  unfold tResent
  split
  · exact hb
  split
  · exact hb
  split
  · rename_i h1 h2 h3
    refine out_base hb (fun e => ?_) _ (fun e => ?_)
    · obtain ⟨g1, g2, g3, g4, _⟩ := hb.s1 e
      unfold TOut.left TOut.sent at h3
      rw [g1, g3, g4] at h3
      unfold mSub at h3
      simp at h3
    · exact absurd (hb.fin e) h2
  · exact hb
theorem tFreshN_base (k : Nat) : ∀ c, BaseOk c → (c.state = 2 ∨ c.state = 3) → BaseOk (tFreshN k c).2 := by
  induction k with
  | zero => exact fun c hb _ => hb
  | succ k ih =>
    intro c hb hs
    unfold tFreshN
    split
    · exact ih _ (out_base hb (by omega) _ (by omega)) hs
    · exact hb
theorem tFreshN_kept (k : Nat) : ∀ c, (tFreshN k c).2.state = c.state ∧ (tFreshN k c).2.inn = c.inn ∧ (tFreshN k c).2.out.u = c.out.u ∧ (tFreshN k c).2.out.base = c.out.base := by
  induction k with
  | zero => exact fun c => ⟨rfl, rfl, rfl, rfl⟩
  | succ k ih =>
    intro c
    unfold tFreshN
    split
    · exact ih _
    · exact ⟨rfl, rfl, rfl, rfl⟩
theorem tOutC_base {c : TConn} (hb : BaseOk c) : BaseOk (tOutC c).2 := by
  unfold tOutC
  split
  · rename_i h; exact tFreshN_base _ c hb h
  · exact hb
theorem tOutD_base {c : TConn} (h : OutOk c) (hb : BaseOk c) : BaseOk (tOutD c).2 := by
  unfold tOutD
  split
  · rename_i hc
    obtain ⟨h3, he, hl⟩ := hc
    have hbase := hb.base (.inr (.inl h3))
    have hd := hb.don2 (.inl h3)
    have hu := h.u
    have hn := h.n
    have hs := h.nu'
    have hne : c.out.u ≠ (c.out.n + 1) % 4294967296 := by
      unfold mSub at hs
      omega
    exact ⟨fun e => absurd e (by simp), fun _ => hbase, fun e => absurd e (by simp), fun _ => hd, fun _ => ⟨rfl, hne⟩, fun e => by have := hb.gave e; omega, fun e => by have := hb.off e; omega, fun e => absurd e (by simp), fun _ => hb.clock (by omega), hb.told⟩
  · exact hb
theorem OnlyN.base_ {c c' : TConn} (h : OnlyN c c') : c'.out.u = c.out.u ∧ c'.out.base = c.out.base ∧ c'.out.fin = c.out.fin := by rw [h]; exact ⟨rfl, rfl, rfl⟩
theorem tOutB_base {c : TConn} (hb : BaseOk c) : BaseOk (tOutB c).2 := by
  unfold tOutB
  split
  · exact tResent_base hb
  · exact hb
theorem tOut_base {c : TConn} (h : OutOk c) (hb : BaseOk c) : BaseOk (tOut c).2 := by
  unfold tOut
  split
  · exact hb
  split
  · rename_i hg
    have h5 := hb.gave hg
    exact ⟨fun e => absurd (h5.symm.trans e) (by decide), hb.base, hb.done, hb.don2, hb.fin, hb.gave, fun _ => h5, fun _ => .inr rfl, hb.clock, hb.told⟩
  · unfold tOut2
    have h2 := tOutB_ok h
    have b2 := tOutB_base hb
    have b2q : BaseOk (tQuiet (tOutB c).2) := ⟨fun e => by obtain ⟨h1, h2, h3, h4, h5, _⟩ := b2.s1 e; exact ⟨h1, h2, h3, h4, h5, rfl⟩, b2.base, b2.done, b2.don2, b2.fin, b2.gave, b2.off, b2.five, b2.clock, b2.told⟩
    have h3 := tOutC_ok (quiet_ok h2.1)
    have b4 := tOutD_base h3.1 (tOutC_base b2q)
    exact ⟨b4.s1, b4.base, b4.done, b4.don2, b4.fin, b4.gave, b4.off, b4.five, b4.clock, b4.told⟩

/-! ### what came out of order, as a list -/

def ltFind (lt : List (Nat × UInt8)) (k : Nat) : Option UInt8 := (lt.find? fun x => decide (x.1 = k)).map Prod.snd
theorem ltFind_snoc (lt : List (Nat × UInt8)) (n : Nat) (b : UInt8) (k : Nat) (h : ltFind lt n = none) : ltFind (lt ++ [(n, b)]) k = if k = n then some b else ltFind lt k := by
  unfold ltFind at h ⊢
  rw [List.find?_append]
  by_cases e : k = n
  · subst e
    rw [if_pos rfl]
    cases h1 : lt.find? (fun x => decide (x.1 = k)) with
    | some x => rw [h1] at h; cases h
    | none => simp
  · rw [if_neg e]
    cases h1 : lt.find? (fun x => decide (x.1 = k)) with
    | some x => simp
    | none =>
      have : decide (n = k) = false := decide_eq_false (fun q => e q.symm)
      simp [List.find?, this]
theorem ltFind_drop (lt : List (Nat × UInt8)) (r k : Nat) : ltFind (lt.filter fun x => !decide (x.1 = r)) k = if k = r then none else ltFind lt k := by
  unfold ltFind
  induction lt with
  | nil => simp
  | cons x lt ih =>
    rw [List.filter_cons]
    by_cases hx : x.1 = r
    · rw [if_neg (by simp [hx]), ih]
      by_cases e : k = r
      · rw [if_pos e, if_pos e]
      · rw [if_neg e, if_neg e]
        have : decide (x.1 = k) = false := decide_eq_false (fun q => e (q.symm.trans hx))
        simp [List.find?, this]
    · rw [if_pos (by simp [hx])]
      by_cases hk : x.1 = k
      · have e : k ≠ r := fun q => hx (hk.trans q)
        rw [if_neg e]
        simp [List.find?, hk]
      · have hd : decide (x.1 = k) = false := decide_eq_false hk
        simp only [List.find?, hd]
        exact ih
/-- the two say the same of what came early -/
def LtRel (early : Nat → Option UInt8) (lt : List (Nat × UInt8)) : Prop := ∀ k, early k = ltFind lt k
/-- a byte is noted -/
def rPut1 (lt : List (Nat × UInt8)) (r q n : Nat) (b : UInt8) : List (Nat × UInt8) := if ltFind lt n = none ∧ mSub n r < q then lt ++ [(n, b)] else lt
def rPut (lt : List (Nat × UInt8)) (r q seq : Nat) : List UInt8 → Nat → List (Nat × UInt8)
  | [], _ => lt
  | b :: bs, i => rPut (rPut1 lt r q ((seq + i) % 4294967296) b) r q seq bs (i + 1)
theorem rPut1_len (lt : List (Nat × UInt8)) (r q n : Nat) (b : UInt8) : (rPut1 lt r q n b).length ≤ lt.length + 1 := by
  unfold rPut1
  split
  · simp
  · omega
theorem rPut_len (r q seq : Nat) : ∀ (l : List UInt8) (lt : List (Nat × UInt8)) (i : Nat), (rPut lt r q seq l i).length ≤ lt.length + l.length := by
  intro l
  induction l with
  | nil => intro lt i; exact Nat.le_refl _
  | cons b l ih =>
    intro lt i
    have h1 := ih (rPut1 lt r q ((seq + i) % 4294967296) b) (i + 1)
    have h2 := rPut1_len lt r q ((seq + i) % 4294967296) b
    unfold rPut
    simp only [List.length_cons]
    omega
theorem rPut_rel (r q seq : Nat) : ∀ (l : List UInt8) (e : Nat → Option UInt8) (lt : List (Nat × UInt8)) (i : Nat), LtRel e lt → LtRel (earlyPut e r q seq l i) (rPut lt r q seq l i) := by
  intro l
  induction l with
  | nil => intro e lt i h; exact h
  | cons b l ih =>
    intro e lt i h
    refine ih _ _ _ fun k => ?_
    unfold rPut1
    by_cases hc : ltFind lt ((seq + i) % 4294967296) = none ∧ mSub ((seq + i) % 4294967296) r < q
    · rw [if_pos hc, ltFind_snoc _ _ _ _ hc.1]
      by_cases e1 : k = (seq + i) % 4294967296
      · rw [if_pos e1, if_pos ⟨e1, by rw [h k, e1]; exact hc.1, hc.2⟩]
      · rw [if_neg e1, if_neg (fun q => e1 q.1)]
        exact h k
    · rw [if_neg hc, if_neg (fun q => hc ⟨by rw [← h, ← q.1]; exact q.2.1, q.2.2⟩)]
      exact h k
theorem rPut_snoc (r q seq : Nat) (b : UInt8) : ∀ (l : List UInt8) (lt : List (Nat × UInt8)) (i : Nat), rPut lt r q seq (l ++ [b]) i = rPut1 (rPut lt r q seq l i) r q ((seq + (i + l.length)) % 4294967296) b := by
  intro l
  induction l with
  | nil => intro lt i; rfl
  | cons c l ih =>
    intro lt i
    show rPut (rPut1 lt r q ((seq + i) % 4294967296) c) r q seq (l ++ [b]) (i + 1) = rPut1 (rPut (rPut1 lt r q ((seq + i) % 4294967296) c) r q seq l (i + 1)) r q ((seq + (i + (c :: l).length)) % 4294967296) b
    rw [ih]
    congr 3
    simp only [List.length_cons]
    omega
end Go.Proofs.Ytahlcjkcdgahkaa
