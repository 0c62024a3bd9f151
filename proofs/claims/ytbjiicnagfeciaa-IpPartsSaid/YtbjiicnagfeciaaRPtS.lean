/- What holds of the parts of all that wait is kept. -/
import Derived.Test.YtbjiicnagfeciaaRPtE
namespace Go.Proofs.Ytbjiicnagfeciaa
section
open Go Go.RowKit

/-- what holds of the parts of one that waits, beside Ok -/
structure Snd (x : Wt) : Prop where
  ok : x.Ok
  size : ∀ q ∈ x.parts, q.more = true → 0 < q.body.length
  last : ∀ q ∈ x.parts, q.more = false → 0 < q.off
  apart : x.parts.Pairwise fun a b => a.to ≤ b.off ∨ b.to ≤ a.off
  fin : x.fin < 0 ∨ ∃ q ∈ x.parts, q.more = false
  fins : ∀ q ∈ x.parts, q.more = false → 0 ≤ x.fin ∧ q.to = x.fin
theorem snd_new (k : PKey) (h : k.Ok) : Snd ⟨k, [], -1, 0⟩ := ⟨wt_new k h, fun q hq => (by cases hq), fun q hq => (by cases hq), List.Pairwise.nil, .inl (show (-1 : Int) < 0 by decide), fun q hq => (by cases hq)⟩
theorem beside_zero {x : Wt} {p : Pk} (hb : pBeside x.parts x.fin p ≠ 1) (hb2 : pBeside x.parts x.fin p ≠ 2) : (∀ y ∈ x.parts, pSame y p = false) ∧ (∀ y ∈ x.parts, pClash y p = false) ∧ (x.fin < 0 ∨ p.to ≤ x.fin ∧ p.more = true) := by
  have h1 : x.parts.any (pSame · p) = false := by
    cases hq : x.parts.any (pSame · p) with
    | false => rfl
    | true => exact absurd (by unfold pBeside; rw [if_pos hq]) hb
  have h2 : (x.parts.any (pClash · p) || (decide (0 ≤ x.fin) && (decide (x.fin < p.to) || !p.more))) = false := by
    cases hq : (x.parts.any (pClash · p) || (decide (0 ≤ x.fin) && (decide (x.fin < p.to) || !p.more))) with
    | false => rfl
    | true => exact absurd (by unfold pBeside; rw [if_neg (by simp [h1]), if_pos hq]) hb2
  simp only [Bool.or_eq_false_iff, Bool.and_eq_false_iff, decide_eq_false_iff_not, Bool.not_eq_false'] at h2
  obtain ⟨c1, c2⟩ := h2
  refine ⟨fun y hy => ?_, fun y hy => ?_, ?_⟩
  · simp only [List.any_eq_false] at h1; simpa using h1 y hy
  · simp only [List.any_eq_false] at c1; simpa using c1 y hy
  · rcases c2 with c2 | ⟨c2, c3⟩
    · left; omega
    · right; exact ⟨by omega, c3⟩
theorem snd_more {x : Wt} {p : Pk} (h : Snd x) (hw : pWrong p = false) (h0 : ¬ (p.off = 0 ∧ p.more = false)) (hb : pBeside x.parts x.fin p ≠ 1) (hb2 : pBeside x.parts x.fin p ≠ 2) : Snd (pMore x p) := by
  obtain ⟨b1, b2, b3⟩ := beside_zero hb hb2
  have hpo := pWrong_no hw
  have hps : p.more = true → 0 < p.body.length := fun hm => by
    refine Nat.pos_of_ne_zero fun e => ?_
    unfold pWrong at hw
    rw [hm, decide_eq_true e] at hw
    simp at hw
  refine ⟨pMore_ok h.ok hw hb hb2, fun q hq => ?_, fun q hq => ?_, ?_, ?_, fun q hq hm => ?_⟩
  · rcases List.mem_append.1 hq with hq | hq
    · exact h.size q hq
    · simp at hq; subst hq; exact hps
  · rcases List.mem_append.1 hq with hq | hq
    · exact h.last q hq
    · simp at hq; subst hq
      intro hm
      have : q.off ≠ 0 := fun e => h0 ⟨e, hm⟩
      omega
  · show (x.parts ++ [p]).Pairwise _
    rw [List.pairwise_append]
    refine ⟨h.apart, List.pairwise_singleton _ _, fun a ha b hb => ?_⟩
    simp at hb
    subst hb
    have := b2 a ha
    simp only [pClash, Bool.or_eq_false_iff, Bool.and_eq_false_iff, decide_eq_false_iff_not] at this
    omega
  · cases hm : p.more with
    | true =>
      rcases h.fin with f | ⟨q, hq, hqm⟩
      · left; unfold pMore; simp [hm, f]
      · right; exact ⟨q, List.mem_append.2 (.inl hq), hqm⟩
    | false => right; exact ⟨p, List.mem_append.2 (.inr (by simp)), hm⟩
  · unfold pMore at hq ⊢
    simp only at hq ⊢
    rcases List.mem_append.1 hq with hq | hq
    · have hf := h.fins q hq hm
      have hpm : p.more = true := by
        rcases b3 with b3 | ⟨_, b3⟩
        · omega
        · exact b3
      rw [if_pos hpm]
      exact hf
    · simp at hq; subst hq
      rw [if_neg (by simp [hm])]
      have : (0 : Int) ≤ q.body.length := by omega
      exact ⟨by unfold Pk.to; omega, rfl⟩

theorem twn_same (x p : Pk) : pSame (twn x) p = pSame x p := rfl
theorem twn_clash (x p : Pk) : rClashOne (twn x) p = rClashOne x p := rfl
theorem clash_law {x : Wt} (h : Snd x) (p : Pk) : rClash (x.parts.map twn) p = (decide (pBeside x.parts x.fin p = 2), decide (pBeside x.parts x.fin p = 1)) := by
  have e1 : (x.parts.map twn).any (pSame · p) = x.parts.any (pSame · p) := by rw [List.any_map]; rfl
  have e2 : (x.parts.map twn).any (rClashOne · p) = x.parts.any (rClashOne · p) := by rw [List.any_map]; rfl
  unfold rClash pBeside
  rw [e1, e2]
  by_cases hs : x.parts.any (pSame · p) = true
  · rw [if_pos hs, if_pos hs]; rfl
  · rw [if_neg hs, if_neg hs]
    have key : x.parts.any (rClashOne · p) = (x.parts.any (pClash · p) || (decide (0 ≤ x.fin) && (decide (x.fin < p.to) || !p.more))) := by
      rw [Bool.eq_iff_iff]
      simp only [Bool.or_eq_true, List.any_eq_true, Bool.and_eq_true, decide_eq_true_eq, Bool.not_eq_true']
      constructor
      · rintro ⟨y, hy, hc⟩
        simp only [rClashOne, Bool.or_eq_true, Bool.and_eq_true, decide_eq_true_eq, Bool.not_eq_true'] at hc
        rcases hc with (⟨c1, c2⟩ | ⟨c1, c2⟩) | ⟨c1, c2⟩
        · left; exact ⟨y, hy, by simp [pClash, c1, c2]⟩
        · obtain ⟨f1, f2⟩ := h.fins y hy c1
          right
          refine ⟨f1, ?_⟩
          rcases c2 with c2 | c2
          · left; omega
          · right; exact c2
        · left; exact ⟨y, hy, by simp [pClash, c1]; omega⟩
      · rintro (⟨y, hy, hc⟩ | ⟨f1, hc⟩)
        · refine ⟨y, hy, ?_⟩
          simp only [pClash, Bool.or_eq_true, Bool.and_eq_true, decide_eq_true_eq, Bool.not_eq_true'] at hc
          simp only [rClashOne, Bool.or_eq_true, Bool.and_eq_true, decide_eq_true_eq, Bool.not_eq_true']
          rcases hc with ⟨c1, c2⟩ | ⟨c1, c2⟩
          · exact .inl (.inl ⟨c2, c1⟩)
          · exact .inr ⟨c1, by omega⟩
        · rcases h.fin with f | ⟨q, hq, hqm⟩
          · omega
          · refine ⟨q, hq, ?_⟩
            have hf := (h.fins q hq hqm).2
            simp only [rClashOne, Bool.or_eq_true, Bool.and_eq_true, decide_eq_true_eq, Bool.not_eq_true']
            refine .inl (.inr ⟨hqm, ?_⟩)
            rcases hc with hc | hc
            · left; omega
            · right; exact hc
    rw [key]
    by_cases hc : (x.parts.any (pClash · p) || (decide (0 ≤ x.fin) && (decide (x.fin < p.to) || !p.more))) = true
    · rw [if_pos hc, hc]; rfl
    · rw [if_neg hc]
      have : (x.parts.any (pClash · p) || (decide (0 ≤ x.fin) && (decide (x.fin < p.to) || !p.more))) = false := by simpa using hc
      rw [this]; rfl
end
section
open Go Go.RowKit

/-- what holds of all that wait beside PtsOk: their parts are sound, they are young -/
def SndL (l : List Wt) : Prop := ∀ x ∈ l, Snd x ∧ x.age < 3000
theorem sndL_nil : SndL [] := fun x hx => by cases hx
theorem sndL_lose {l : List Wt} (h : SndL l) (k : PKey) : SndL (pLose l k) := fun x hx => h x (List.mem_filter.1 hx).1
theorem sndL_set {l : List Wt} (h : SndL l) {x : Wt} (hx : Snd x ∧ x.age < 3000) : SndL (pSet l x) := fun y hy => by
  obtain ⟨z, hz, rfl⟩ := List.mem_map.1 hy
  by_cases e : z.k = x.k
  · rw [if_pos e]; exact hx
  · rw [if_neg e]; exact h z hz
theorem sndL_find {l : List Wt} (h : SndL l) (k : PKey) (hk : k.Ok) : SndL (pFind l k).1 ∧ Snd (pFind l k).2 ∧ (pFind l k).2.age < 3000 := by
  unfold pFind
  cases e : l.find? (fun x => decide (x.k = k)) with
  | none =>
    refine ⟨fun x hx => ?_, snd_new k hk, show (0 : Int) < 3000 by decide⟩
    simp only at hx
    rcases List.mem_append.1 hx with hx | hx
    · split at hx
      · exact h x (List.mem_of_mem_drop hx)
      · exact h x hx
    · simp at hx
      subst hx
      exact ⟨snd_new k hk, show (0 : Int) < 3000 by decide⟩
  | some w =>
    have hm := List.mem_of_find?_eq_some e
    exact ⟨h, h w hm⟩
theorem sndL_add {l : List Wt} (h : SndL l) (p : Pk) (hk : p.key.Ok) : SndL (pAdd l p).1 := by
  by_cases h0 : p.off = 0 ∧ p.more = false
  · unfold pAdd; rw [if_pos h0]; exact h
  cases hw : pWrong p with
  | true => unfold pAdd; rw [if_neg h0, if_pos hw]; exact h
  | false =>
    obtain ⟨f1, f2, f3⟩ := sndL_find h p.key hk
    unfold pAdd
    rw [if_neg h0, hw, if_neg (by simp)]
    generalize pFind l p.key = r at f1 f2 f3
    simp only
    by_cases b1 : pBeside r.2.parts r.2.fin p = 1
    · rw [if_pos b1]; exact f1
    · rw [if_neg b1]
      by_cases b2 : pBeside r.2.parts r.2.fin p = 2
      · rw [if_pos b2]; exact sndL_lose f1 _
      · rw [if_neg b2]
        have hm : Snd (pMore r.2 p) ∧ (pMore r.2 p).age < 3000 := ⟨snd_more f2 hw h0 b1 b2, f3⟩
        split
        · exact sndL_lose (sndL_set f1 hm) _
        · exact sndL_set f1 hm
theorem sndL_tick {l : List Wt} (h : SndL l) (n : Int) : SndL (pTick l n).1 := by
  unfold pTick
  by_cases hn : n < 1
  · rw [if_pos hn]; exact h
  · rw [if_neg hn]
    intro x hx
    simp only [List.mem_filterMap] at hx
    obtain ⟨y, hy, hxy⟩ := hx
    split at hxy
    · rename_i hlt
      injection hxy with hxy
      subst hxy
      obtain ⟨hs, hy3⟩ := h y hy
      have hag := hs.ok.age
      exact ⟨⟨⟨hs.ok.key, hs.ok.off, hs.ok.fin, hs.ok.le, by show 0 ≤ y.age + min n 3000 ∧ y.age + min n 3000 ≤ 4000000000000000000; omega⟩, hs.size, hs.last, hs.apart, hs.fin, hs.fins⟩, hlt⟩
    · cases hxy
end
end Go.Proofs.Ytbjiicnagfeciaa
