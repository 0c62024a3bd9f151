/- What DrcOnce asks, in plain words: one call is done and known while fewer than n began behind it. -/
import Derived.Test.YtkgeccmpekclcaaDrcR
namespace Go.Proofs.Ytkgeccmpekclcaa
open Go Go.RowKit
set_option maxRecDepth 100000

structure OnceAt (n began : Nat) (reply : List UInt8) (me : DKey) (l : List DCall) : Prop where
  len : l.length ≤ n
  done : ∀ c ∈ l, c.done = true
  mine : began < n → ∃ rest, l = ⟨me, true, reply⟩ :: rest ∧ l.length = 1 + began
  reps : ∀ c ∈ l, c.reply.length ≤ 1099511627776

theorem endAt_done {l : List DCall} (h : ∀ c ∈ l, c.done = true) (k : DKey) (i : Nat) : endAt l k i = false := by
  unfold endAt
  cases e : l[i]? with
  | none => rfl
  | some c =>
    have := h c (List.mem_of_getElem? e)
    simp [this]
theorem end_done {l : List DCall} (h : ∀ c ∈ l, c.done = true) (k : DKey) (r : List UInt8) : drcEnd l k r = (l, 2) := by
  unfold drcEnd
  rw [fidx_none (fun j _ => endAt_done h k j)]
theorem end_snoc {l : List DCall} (h : ∀ c ∈ l, c.done = true) (k : DKey) (r : List UInt8) : drcEnd (l ++ [⟨k, false, []⟩]) k r = (l ++ [⟨k, true, r⟩], 0) := by
  have e : fidx (endAt (l ++ [(⟨k, false, []⟩ : DCall)]) k) (l ++ [(⟨k, false, []⟩ : DCall)]).length = some l.length := by
    refine fidx_le (p := endAt (l ++ [(⟨k, false, []⟩ : DCall)]) k) (k := l.length) ?_ (fun j hj => ?_) (l ++ [(⟨k, false, []⟩ : DCall)]).length (by simp)
    · simp [endAt]
    · have := endAt_done h k j
      unfold endAt at this ⊢
      rw [List.getElem?_append_left hj]
      exact this
  unfold drcEnd
  rw [e]
  simp
theorem once_step {n began : Nat} {reply : List UInt8} {me k : DKey} {l : List DCall} (h : OnceAt n began reply me l) (hn : 1 ≤ n) :
    OnceAt n (if (drcBegin n l k).1.1 = 1 then began + 1 else began) reply me (drcEnd (drcBegin n l k).2 k []).1 := by
  cases hf : l.find? (fun c => decide (c.key = k)) with
  | some c =>
    have hc := h.done c (List.mem_of_find?_eq_some hf)
    have e : drcBegin n l k = ((3, c.reply), l) := by unfold drcBegin; rw [hf]; simp only [hc, if_true]
    rw [e, end_done h.done]
    exact h
  | none =>
    by_cases hl : l.length = n
    · have hd : fidx (doneAt l) l.length = some 0 := by
        refine fidx_le (k := 0) ?_ (fun j hj => absurd hj (Nat.not_lt_zero _)) l.length (by omega)
        unfold doneAt
        cases q : l[0]? with
        | none => rw [List.getElem?_eq_none_iff] at q; omega
        | some c => exact h.done c (List.mem_of_getElem? q)
      have e : drcBegin n l k = ((1, []), l.eraseIdx 0 ++ [⟨k, false, []⟩]) := by unfold drcBegin; rw [hf]; simp only [hl, if_true]; rw [← hl, hd]
      have hsub : ∀ c ∈ l.eraseIdx 0, c ∈ l := fun c hc => (List.eraseIdx_sublist l 0).subset hc
      rw [e, end_snoc (fun c hc => h.done c (hsub c hc))]
      refine ⟨?_, fun c hc => ?_, fun hb => ?_, fun c hc => ?_⟩
      · simp; omega
      · rcases List.mem_append.1 hc with hc | hc
        · exact h.done c (hsub c hc)
        · obtain rfl : c = _ := by simpa using hc
          rfl
      · simp only [if_true] at hb
        obtain ⟨rest, _, h2⟩ := h.mine (by omega)
        omega
      · rcases List.mem_append.1 hc with hc | hc
        · exact h.reps c (hsub c hc)
        · obtain rfl : c = _ := by simpa using hc
          simp
    · have e : drcBegin n l k = ((1, []), l ++ [⟨k, false, []⟩]) := by unfold drcBegin; rw [hf]; simp only [if_neg hl]
      rw [e, end_snoc h.done]
      refine ⟨?_, fun c hc => ?_, fun hb => ?_, fun c hc => ?_⟩
      · have := h.len; simp; omega
      · rcases List.mem_append.1 hc with hc | hc
        · exact h.done c hc
        · obtain rfl : c = _ := by simpa using hc
          rfl
      · simp only [if_true] at hb ⊢
        obtain ⟨rest, rfl, h2⟩ := h.mine (by omega)
        exact ⟨rest ++ [⟨k, true, []⟩], rfl, by rw [List.length_append, h2]; simp; omega⟩
      · rcases List.mem_append.1 hc with hc | hc
        · exact h.reps c hc
        · obtain rfl : c = _ := by simpa using hc
          simp
theorem once_mid {n : Nat} {k : DKey} {l : List DCall} (h : ∀ c ∈ l, c.reply.length ≤ 1099511627776) : ∀ c ∈ (drcBegin n l k).2, c.reply.length ≤ 1099511627776 := by
  have hnew : ∀ (p : List DCall), (∀ c ∈ p, c ∈ l) → ∀ c ∈ p ++ [⟨k, false, []⟩], c.reply.length ≤ 1099511627776 := by
    intro p hp c hc
    rcases List.mem_append.1 hc with hc | hc
    · exact h c (hp c hc)
    · obtain rfl : c = _ := by simpa using hc
      simp
  unfold drcBegin
  split
  · split <;> exact h
  · split
    · split
      · exact h
      · exact hnew _ fun c hc => (List.eraseIdx_sublist l _).subset hc
    · exact hnew _ fun c hc => hc
theorem once_hit {n began : Nat} {reply : List UInt8} {me : DKey} {l : List DCall} (h : OnceAt n began reply me l) (hb : began < n) : drcBegin n l me = ((3, reply), l) := by
  obtain ⟨rest, rfl, _⟩ := h.mine hb
  unfold drcBegin
  simp
theorem once_first (n : Nat) (reply : List UInt8) (me : DKey) (hn : 1 ≤ n) (hr : reply.length ≤ 1099511627776) :
    drcBegin n [] me = ((1, []), [⟨me, false, []⟩]) ∧ drcEnd [⟨me, false, []⟩] me reply = ([⟨me, true, reply⟩], 0) ∧ drcEnd [⟨me, true, reply⟩] me reply = ([⟨me, true, reply⟩], 2) ∧ OnceAt n 0 reply me [⟨me, true, reply⟩] := by
  refine ⟨?_, end_snoc (l := []) (fun _ h => (by cases h)) me reply, end_done (by simp) me reply, ⟨by simpa using hn, by simp, fun _ => ⟨[], rfl, rfl⟩, by simpa using hr⟩⟩
  unfold drcBegin
  simp
  omega
end Go.Proofs.Ytkgeccmpekclcaa
