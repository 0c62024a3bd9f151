/- Of parts that never end none is whole. -/
import Derived.Test.YtbjiicnagfeciaaPtS
namespace Go.Proofs.Ytbjiicnagfeciaa
open Go Go.RowKit

/-- the part that is added at the place i -/
def bndPk (n : Int) (i : Nat) : Pk := ⟨0, 0, 0, n, 8 * (i : Int), true, false, 0, List.replicate 8 0⟩
/-- what waits behind i parts -/
def Bnd (l : List Wt) (i : Nat) : Prop := ∀ x ∈ l, x.fin = -1 ∧ x.age = 0 ∧ ∀ q ∈ x.parts, q.body.length = 8 ∧ ∃ j : Nat, j < i ∧ q.off = 8 * (j : Int)
theorem bnd_nil : Bnd [] 0 := fun x hx => by cases hx
theorem pFind_mem {l : List Wt} {k : PKey} {i : Nat} (h : Bnd l i) : Bnd (pFind l k).1 i ∧ (pFind l k).2.fin = -1 ∧ (pFind l k).2.age = 0 ∧ ∀ q ∈ (pFind l k).2.parts, q.body.length = 8 ∧ ∃ j : Nat, j < i ∧ q.off = 8 * (j : Int) := by
  unfold pFind
  cases e : l.find? (fun x => decide (x.k = k)) with
  | none =>
    refine ⟨fun x hx => ?_, rfl, rfl, fun q hq => (by cases hq)⟩
    simp only at hx
    rcases List.mem_append.1 hx with hx | hx
    · split at hx
      · exact h x (List.mem_of_mem_drop hx)
      · exact h x hx
    · simp at hx
      subst hx
      exact ⟨rfl, rfl, fun q hq => (by cases hq)⟩
  | some w =>
    have hm := List.mem_of_find?_eq_some e
    exact ⟨h, (h w hm).1, (h w hm).2.1, (h w hm).2.2⟩
theorem bnd_step {l : List Wt} {i : Nat} (h : Bnd l i) (hi : i < 60) (n : Int) : (pAdd l (bndPk n i)).2.2 = 19 ∧ Bnd (pAdd l (bndPk n i)).1 (i + 1) := by
  obtain ⟨h1, h2, h3, h4⟩ := pFind_mem (k := (bndPk n i).key) h
  have hw : pWrong (bndPk n i) = false := by
    unfold pWrong bndPk
    simp only [List.length_replicate, Bool.true_and]
    simp
    omega
  have hn1 : (pFind l (bndPk n i).key).2.parts.any (pSame · (bndPk n i)) = false := by
    rw [List.any_eq_false]
    intro q hq
    obtain ⟨_, j, hj, e⟩ := h4 q hq
    simp only [pSame, bndPk, Bool.and_eq_true]
    rintro ⟨⟨q1, _⟩, _⟩
    have q1 := of_decide_eq_true q1
    omega
  have hn2 : (pFind l (bndPk n i).key).2.parts.any (pClash · (bndPk n i)) = false := by
    rw [List.any_eq_false]
    intro q hq
    obtain ⟨hb, j, hj, e⟩ := h4 q hq
    simp only [pClash, bndPk, Pk.to, List.length_replicate, hb, Bool.not_true, Bool.false_and, Bool.or_false, Bool.and_eq_true, decide_eq_true_eq]
    rintro ⟨q1, q2⟩
    omega
  have hb : pBeside (pFind l (bndPk n i).key).2.parts (pFind l (bndPk n i).key).2.fin (bndPk n i) = 0 := by
    unfold pBeside
    rw [hn1, hn2, h2]
    simp
  have hm : (pMore (pFind l (bndPk n i).key).2 (bndPk n i)).fin = -1 := by
    unfold pMore bndPk
    simp only [if_true]
    exact h2
  have hr : pAdd l (bndPk n i) = (pSet (pFind l (bndPk n i).key).1 (pMore (pFind l (bndPk n i).key).2 (bndPk n i)), pkZero, 19) := by
    unfold pAdd
    rw [if_neg (by simp [bndPk]), hw, if_neg (by simp)]
    simp only [hb]
    rw [if_neg (by decide), if_neg (by decide)]
    have hwh : ∀ k ps, pWhole k ps (-1) = (pkZero, false) := fun _ _ => rfl
    rw [hm, hwh]
    rfl
  rw [hr]
  refine ⟨rfl, fun x hx => ?_⟩
  simp only [pSet] at hx
  obtain ⟨y, hy, rfl⟩ := List.mem_map.1 hx
  split
  · refine ⟨hm, h3, fun q hq => ?_⟩
    simp only [pMore] at hq
    rcases List.mem_append.1 hq with hq | hq
    · obtain ⟨a, j, b, c⟩ := h4 q hq
      exact ⟨a, j, by omega, c⟩
    · simp at hq
      subst hq
      exact ⟨by simp [bndPk], i, by omega, rfl⟩
  · obtain ⟨a, b, c⟩ := h1 y hy
    exact ⟨a, b, fun q hq => by obtain ⟨d, j, e, f⟩ := c q hq; exact ⟨d, j, by omega, f⟩⟩
theorem fmap_some {α β : Type} (l : List α) (f : α → Option β) (g : α → β) (h : ∀ x ∈ l, f x = some (g x)) : l.filterMap f = l.map g := by
  induction l with
  | nil => rfl
  | cons a l ih => rw [List.filterMap_cons, h a (List.mem_cons_self ..), List.map_cons, ih fun x hx => h x (List.mem_cons_of_mem _ hx)]
/-- the ticks at the end -/
theorem bnd_tick {l : List Wt} {i : Nat} (h : Bnd l i) (k : Nat) (hk : k < 4000) : pTick l (k : Int) = if k < 3000 then (if k < 1 then (l, 0) else (l.map fun x => { x with age := (k : Int) }, 0)) else ([], (l.length : Int)) := by
  unfold pTick
  by_cases h1 : k < 1
  · rw [if_pos (by omega), if_pos (by omega), if_pos h1]
  · rw [if_neg (by omega)]
    by_cases h2 : k < 3000
    · rw [if_pos h2, if_neg h1]
      congr 1
      · have : ∀ x ∈ l, (if x.age + min (k : Int) 3000 < 3000 then some { x with age := x.age + min (k : Int) 3000 } else none) = some ({ x with age := (k : Int) } : Wt) := fun x hx => by
          have := (h x hx).2.1
          rw [if_pos (by omega), show x.age + min (k : Int) 3000 = k by omega]
        exact fmap_some _ _ _ this
      · have : l.filter (fun x => decide (3000 ≤ x.age + min (k : Int) 3000)) = [] := List.filter_eq_nil_iff.2 fun x hx => by
          have := (h x hx).2.1
          simp
          omega
        rw [this]
        rfl
    · rw [if_neg h2]
      congr 1
      · exact List.filterMap_eq_nil_iff.2 fun x hx => by
          have := (h x hx).2.1
          rw [if_neg (by omega)]
      · have : l.filter (fun x => decide (3000 ≤ x.age + min (k : Int) 3000)) = l := List.filter_eq_self.2 fun x hx => by
          have := (h x hx).2.1
          simp
          omega
        rw [this]
end Go.Proofs.Ytbjiicnagfeciaa
