/- How the parts come: a plan of what each Add answers. -/
import Derived.Test.YtbjiicnagfeciaaPtY
namespace Go.Proofs.Ytbjiicnagfeciaa
open Go Go.RowKit

/-- the row behind the other packet's part, which comes at the step 1 -/
def withO (i : Nat) (st : List Wt) (o : Pk) : List Wt := if i = 1 then (pAdd st o).1 else st
def wholePk (p : Pk) : Pk := ⟨p.src, p.dst, p.proto, p.id, 0, false, true, p.ttl, p.body⟩
structure Plan (p o : Pk) (l : List Pk) (I : Nat → List Nat → List Wt → Prop) : Prop where
  start : I 0 [] []
  nodup : ∀ i js st, I i js st → js.Nodup ∧ (∀ j ∈ js, j < l.length) ∧ js.length < l.length
  again : ∀ i js st k (hk : k < l.length), I i js st → k ∈ js → ∃ st2, pAdd (withO i st o) l[k] = (st2, pkZero, 19) ∧ I (i + 1) js st2
  fresh : ∀ i js st k (hk : k < l.length), I i js st → k ∉ js → js.length + 1 < l.length → ∃ st2, pAdd (withO i st o) l[k] = (st2, pkZero, 19) ∧ I (i + 1) (js ++ [k]) st2
  last : ∀ i js st k (hk : k < l.length), I i js st → k ∉ js → js.length + 1 = l.length → ∃ st2, pAdd (withO i st o) l[k] = (st2, wholePk p, 0) ∧ (pAdd st2 l[k]).2.2 = if l.length = 1 then 0 else 19

theorem plan_one (p o : Pk) (hm : p.more = false) (ho : p.off = 0) : Plan p o [{ p with whole := true }] (fun i js st => i = 0 ∧ js = [] ∧ st = []) where
  start := ⟨rfl, rfl, rfl⟩
  nodup := by rintro i js st ⟨rfl, rfl, rfl⟩; simp
  again := by rintro i js st k hk ⟨rfl, rfl, rfl⟩ h; cases h
  fresh := by rintro i js st k hk ⟨rfl, rfl, rfl⟩ h h2; simp at h2
  last := by
    rintro i js st k hk ⟨rfl, rfl, rfl⟩ h h2
    obtain rfl : k = 0 := by simpa using hk
    obtain ⟨src, dst, proto, id, off, more, whole, ttl, body⟩ := p
    simp only at hm ho
    subst hm ho
    exact ⟨[], rfl, rfl⟩

def planMany (p o : Pk) (s n : Nat) (i : Nat) (js : List Nat) (st : List Wt) : Prop :=
  js.Nodup ∧ (∀ j ∈ js, j < n) ∧ js.length < n ∧ (i = 0 → js = [] ∧ st = []) ∧ (i = 1 → js ≠ [] ∧ st = [cW p s n js]) ∧ (2 ≤ i → js ≠ [] ∧ st = [cW p s n js, ⟨o.key, [o], -1, 0⟩])
theorem plan_many (p o : Pk) (s n : Nat) (h : CutOk p s n) (hk : o.key ≠ p.key) (hm : o.more = true) (ho : o.off = 8) (h8 : o.body.length % 8 = 0) (h0 : 0 < o.body.length) (h4 : o.body.length ≤ 4008) (l : List Pk) (hl : l.length = n) (hat : ∀ k (hk : k < l.length), l[k] = cq p s k) : Plan p o l (planMany p o s n) := by
  subst hl
  have hst : ∀ i js st, planMany p o s l.length i js st → i ≠ 0 → js ≠ [] ∧ ∃ R, withO i st o = cW p s l.length js :: R ∧ (∀ x ∈ R, x.k ≠ p.key) ∧ R = [⟨o.key, [o], -1, 0⟩] := by
    rintro i js st ⟨_, _, _, _, c1, c2⟩ hi
    unfold withO
    by_cases e : i = 1
    · rw [if_pos e]
      obtain ⟨a, rfl⟩ := c1 e
      rw [step_other js o hk hm ho h8 h0 h4]
      exact ⟨a, _, rfl, by simpa using hk, rfl⟩
    · rw [if_neg e]
      obtain ⟨a, rfl⟩ := c2 (by omega)
      exact ⟨a, _, rfl, by simpa using hk, rfl⟩
  have hnd : ∀ (js : List Nat) (k : Nat), js.Nodup → k ∉ js → (js ++ [k]).Nodup := fun js k hd hm => by
    rw [List.nodup_append]
    exact ⟨hd, by simp, fun a ha b hb => by simp at hb; subst hb; exact fun e => hm (e ▸ ha)⟩
  have hlt : ∀ (js : List Nat) (k : Nat), (∀ j ∈ js, j < l.length) → k < l.length → ∀ j ∈ js ++ [k], j < l.length := fun js k hl hk j hj => by
    rcases List.mem_append.1 hj with hj | hj
    · exact hl j hj
    · simp at hj; subst hj; exact hk
  refine ⟨⟨List.nodup_nil, by simp, by have := h.n1; simp; omega, fun _ => ⟨rfl, rfl⟩, by simp, by simp⟩, fun i js st hI => ⟨hI.1, hI.2.1, hI.2.2.1⟩, ?_, ?_, ?_⟩
  · intro i js st k hk2 hI hkj
    rw [hat]
    have hi : i ≠ 0 := fun e => by rw [(hI.2.2.2.1 e).1] at hkj; cases hkj
    obtain ⟨hne, R, e, hR, hRe⟩ := hst i js st hI hi
    rw [e, step_again h js R k hk2 hkj]
    exact ⟨_, rfl, hI.1, hI.2.1, hI.2.2.1, by omega, by omega, fun _ => ⟨hne, by rw [hRe]⟩⟩
  · intro i js st k hk2 hI hkj hn
    rw [hat]
    by_cases hi : i = 0
    · obtain ⟨rfl, rfl⟩ := hI.2.2.2.1 hi
      subst hi
      have := (step_first h [] (by simp) (by simp) k hk2).2 rfl
      unfold withO
      rw [if_neg (by omega), this]
      exact ⟨_, rfl, by simp, by simpa using hk2, by simpa using hn, by omega, fun _ => ⟨by simp, rfl⟩, by omega⟩
    · obtain ⟨hne, R, e, hR, hRe⟩ := hst i js st hI hi
      rw [e, (step_fresh h js hI.1 hI.2.1 R hR k hk2 hkj).1 hn]
      exact ⟨_, rfl, hnd js k hI.1 hkj, hlt js k hI.2.1 hk2, by simp; omega, by omega, by omega, fun _ => ⟨by simp, by rw [hRe]⟩⟩
  · intro i js st k hk2 hI hkj hn
    rw [hat]
    have h1 := h.n1
    have hi : i ≠ 0 := fun e => by rw [(hI.2.2.2.1 e).1] at hn; simp at hn; omega
    obtain ⟨hne, R, e, hR, hRe⟩ := hst i js st hI hi
    rw [e, (step_fresh h js hI.1 hI.2.1 R hR k hk2 hkj).2 hn, if_neg (by omega)]
    exact ⟨_, rfl, (step_first h R hR (by rw [hRe]; simp) k hk2).1⟩
end Go.Proofs.Ytbjiicnagfeciaa
