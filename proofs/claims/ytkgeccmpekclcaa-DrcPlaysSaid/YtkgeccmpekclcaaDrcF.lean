/- A call of a table is turned; End. -/
import Derived.Test.YtkgeccmpekclcaaDrcE
namespace Go.Proofs.Ytkgeccmpekclcaa
open Go Go.RowKit
attribute [local go_sem ↓] Go.wp_at_zero Go.wp_at_succ
set_option maxRecDepth 100000

theorem Blk.ne {w : World} {g g' : Nat} {t t' : TypeId} {xs xs' : List Value} (h : Blk w g t xs) (h' : Blk w g' t' xs') (ht : t ≠ t') : g ≠ g' := by
  intro e
  subst e
  unfold Blk at h h'
  rw [h] at h'
  injection h' with h'
  injection h' with _ h2
  exact ht h2
theorem MapIs.ne {P : Program} {k : TypeId} {w : World} {b n g : Nat} {f : Value → Option Nat} {t : TypeId} {xs : List Value} (h : MapIs P k w b n f) (h' : Blk w g t xs) : b ≠ g := by
  intro e
  subst e
  obtain ⟨es, clock, hm⟩ := h.isMap
  unfold Blk at h'
  rw [hm] at h'
  injection h' with h'
  cases h'
theorem own_store {w w' : World} {base g size n : Nat} {e t : TypeId} {v : Value} {us xs : List Value} (h : w.ownsRow base e size v n us) (hb : Blk w g t xs) (ht : t ≠ e) (hg : w.grownBy w' (some g)) : w'.ownsRow base e size v n us := by
  refine World.ownsRow.kept h hg ?_
  rcases h.2 with ⟨rfl, _⟩ | ⟨g2, cap, cur, rfl, _, hh, _⟩
  · exact .inl rfl
  · refine .inr fun e2 => ?_
    simp only [Value.ownBlock, Option.some.injEq] at e2
    subst e2
    unfold Blk at hb
    rw [hb] at hh
    injection hh with hh
    injection hh with _ h3
    exact ht h3
theorem grown_spares {w w' : World} {g : Nat} {t : TypeId} {xs : List Value} (h : w.grownBy w' (some g)) (hb : Blk w g t xs) (ht : t = 62 ∨ t = 63 ∨ t = 65) : Spares w w' := by
  obtain ⟨a, b, c, d, e⟩ := h
  refine ⟨a, b, c, d, fun k cs t' mk hk h1 h2 h3 => ?_⟩
  refine (e k (Array.getElem?_eq_some_iff.1 hk).1 ?_).trans hk
  intro q
  injection q with q
  subst q
  unfold Blk at hb
  rw [hk] at hb
  injection hb with hb
  injection hb with _ hb
  rcases ht with rfl | rfl | rfl
  · exact h1 hb
  · exact h2 hb
  · exact h3 hb

theorem map_set_same {α β : Type} (L : List α) (i : Nat) (hi : i < L.length) (y : α) (f : α → β) (h : f y = f L[i]) : (L.set i y).map f = L.map f := by
  apply List.ext_getElem
  · simp
  · intro j h1 h2
    rw [List.getElem_map, List.getElem_map, List.getElem_set]
    by_cases e : i = j
    · subst e; rw [if_pos rfl]; exact h
    · rw [if_neg e]
theorem TabAt.setCall {w w' : World} {base gT n m : Nat} {L : List DIt} {vr : Value} {gM : Nat} {f : Value → Option Nat} (h : TabAt w base gT n m L vr gM f) (i : Nat) (hi : i < L.length) (d : Bool) (r : List UInt8) (rv : Value)
    (hg : w.grownBy w' (some L[i].g)) (hb : Blk w' L[i].g 65 (callCells L[i].c.key d rv)) (ho : OwnBs w' base 5 rv r) :
    TabAt w' base gT n m (L.set i ⟨⟨L[i].c.key, d, r⟩, L[i].g, rv⟩) vr gM f := by
  have hold := (h.it L[i] (List.getElem_mem hi)).1
  have eg : (L.set i ⟨⟨L[i].c.key, d, r⟩, L[i].g, rv⟩).map DIt.g = L.map DIt.g := by
    exact map_set_same L i hi _ _ rfl
  have ek : (L.set i ⟨⟨L[i].c.key, d, r⟩, L[i].g, rv⟩).map (fun x => x.c.key) = L.map (fun x => x.c.key) := by
    exact map_set_same L i hi _ _ rfl
  have ep : (L.set i ⟨⟨L[i].c.key, d, r⟩, L[i].g, rv⟩).map DIt.ptr = L.map DIt.ptr := by
    have : ∀ l : List DIt, l.map DIt.ptr = (l.map DIt.g).map fun g => ptrV (some g) := fun l => by simp [DIt.ptr]
    rw [this, this, eg]
  have hat : ∀ x ∈ L.set i ⟨⟨L[i].c.key, d, r⟩, L[i].g, rv⟩, x = ⟨⟨L[i].c.key, d, r⟩, L[i].g, rv⟩ ∨ (x ∈ L ∧ x.g ≠ L[i].g) := by
    intro x hx
    obtain ⟨j, hj, rfl⟩ := List.mem_iff_getElem.1 hx
    rw [List.getElem_set]
    by_cases e : i = j
    · rw [if_pos e]; exact .inl rfl
    · rw [if_neg e]
      have hj' : j < L.length := by simpa using hj
      refine .inr ⟨List.getElem_mem hj', fun q => e ?_⟩
      have := (List.getElem_inj (xs := L.map DIt.g) (i := i) (j := j) (h₀ := by simpa using hi) (h₁ := by simpa using hj') h.nodup).1 (by simpa using q.symm)
      exact this
  refine ⟨h.tab.grown hg (fun e => ?_), h.tabB, ?_, by rw [eg]; exact h.nodup, fun x hx => ?_, h.map.block (hg.block gM h.map.lt (fun e => ?_)), h.mapB, fun x hx => ?_, fun k hk => ?_, by rw [ek]; exact h.keys, fun x hx => ?_⟩
  · injection e with e; exact h.tab.ne hold (by decide) e
  · rw [ep]; exact own_store h.row hold (by decide) hg
  · rcases hat x hx with rfl | ⟨hx', hne⟩
    · exact ⟨hb, (h.it L[i] (List.getElem_mem hi)).2.1, ho⟩
    · obtain ⟨q1, q2, q3⟩ := h.it x hx'
      exact ⟨q1.grown hg (fun e => by injection e with e; exact hne e), q2, ownBs_store q3 hold (by decide) hg⟩
  · injection e with e; exact h.map.ne hold e
  · rcases hat x hx with rfl | ⟨hx', _⟩
    · exact h.hit L[i] (List.getElem_mem hi)
    · exact h.hit x hx'
  · refine h.miss k fun x hx e => ?_
    have : x.c.key ∈ (L.set i ⟨⟨L[i].c.key, d, r⟩, L[i].g, rv⟩).map (fun x => x.c.key) := by rw [ek]; exact List.mem_map_of_mem hx
    obtain ⟨y, hy, hye⟩ := List.mem_map.1 this
    exact hk y hy (hye.trans e)
  · rcases hat x hx with rfl | ⟨hx', _⟩
    · exact h.oks L[i] (List.getElem_mem hi)
    · exact h.oks x hx'
end Go.Proofs.Ytkgeccmpekclcaa
