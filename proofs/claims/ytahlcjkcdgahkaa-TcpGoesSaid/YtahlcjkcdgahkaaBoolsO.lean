/- A row of bools that comes in. -/
import Derived.Test.YtahlcjkcdgahkaaLeaves
namespace Go.Proofs.Ytahlcjkcdgahkaa
open Go Go.RowKit Go.ChangeShapes Go.WideShapes

def boolCells (b : Bool) : List Value := [.bool b]
def boolLeaves : List Leaf := [.bool]
theorem bool_of (w : World) (cs : List Value) (h : Leaves w boolLeaves cs) : ∃ b : Bool, cs = boolCells b ∧ True := by
  unfold boolLeaves at h
  obtain ⟨c0, r0, rfl, h0, h⟩ := h.cons
  obtain rfl := h.nil
  obtain ⟨b, rfl⟩ := h0
  exact ⟨b, rfl, trivial⟩
theorem bools_row (l : List Bool) : l.flatMap boolCells = l.map Value.bool := by
  induction l with
  | nil => rfl
  | cons b l ih => rw [List.flatMap_cons, ih]; rfl
end Go.Proofs.Ytahlcjkcdgahkaa
