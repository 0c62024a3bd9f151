/- What came in, opened: a slice of numbers of one kind. -/
import Derived.Test.YtgiegiobigdplaaOpen
namespace Go.Proofs.Ytgiegiobigdplaa
open Go Go.RowKit Go.ChangeShapes Go.WideShapes Go.Deep

section
variable {H : Type} {enc : TypeId × Value → H} {P : Program} {w : World} {base : Nat} {spare : Nat → Bool} {held : Bool}

theorem rd_ints {k : IntKind} {T E : TypeId} {fuel : Nat} {v : Value} {x : DataW H × List MemPlace} (ht : P.underlying T = some (.slice E)) (he : P.underlying E = some (.int k)) (hc : P.cellsOf E = 1)
    (h : DataW.trod enc P w base spare held fuel T [v] = some x) :
    ∃ l : List Int, RowN w 1 v l.length (l.map fun x => Value.int k x) ∧ (∀ x ∈ l, Lit.wf (.int k x) = true) ∧ (l.length = 0 ∨ ∃ elems sp, x.1 = .slice elems sp ∧ elems.length = l.length) := by
  obtain ⟨n, xs, hr, hx, hd⟩ := rd_row ht hc (by decide) h
  have hlen : xs.length = n := by have := hr.1; omega
  have hel : ∀ i, (hi : i < xs.length) → ∃ b : Int, Lit.wf (.int k b) = true ∧ xs[i] = .int k b := by
    intro i hi
    obtain ⟨m, y, hy⟩ := hx i (by omega)
    rw [take1 hi] at hy
    obtain ⟨z, hz, _, hwf⟩ := DataW.trod_int he hy
    simp at hz
    exact ⟨z, hwf, hz⟩
  have hmap : ∃ l : List Int, xs = (l.map fun x => Value.int k x) ∧ ∀ x ∈ l, Lit.wf (.int k x) = true := by
    clear hr hx hd hlen
    induction xs with
    | nil => exact ⟨[], rfl, by simp⟩
    | cons a xs ih =>
      obtain ⟨b, hb1, hb⟩ := hel 0 (by simp)
      obtain ⟨bs, hbs, hbs2⟩ := ih (fun i hi => by have := hel (i + 1) (by simp; omega); simpa using this)
      refine ⟨b :: bs, by simp at hb; rw [hb, hbs]; rfl, ?_⟩
      intro x hx
      rcases List.mem_cons.1 hx with rfl | hx
      · exact hb1
      · exact hbs2 x hx
  obtain ⟨l, rfl, hl⟩ := hmap
  have hbl : l.length = n := by simpa using hlen
  subst hbl
  exact ⟨l, hr, hl, hd⟩
end
end Go.Proofs.Ytgiegiobigdplaa
