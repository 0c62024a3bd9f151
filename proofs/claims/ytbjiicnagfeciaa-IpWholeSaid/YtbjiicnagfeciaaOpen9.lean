/- A struct by value of one-cell fields, opened. No program is named here. -/
import Derived.Test.YtbjiicnagfeciaaOpen
import Derived.Lib.SmallJoins
namespace Go.Proofs.Ytbjiicnagfeciaa
open Go Go.ChangeShapes Go.WideShapes Go.RowKit Go.Joins Go.Deep Go.WideElems Go.Maps

section
variable {H : Type} {enc : TypeId × Value → H} {P : Program} {w : World} {base : Nat} {spare : Nat → Bool} {held : Bool}
theorem open_aggN {r : Reach} {b0 : Nat} {t : TypeId} {fs : Array Field} {v : Value} {d : DataW H} {p : List MemPlace} {N : Nat} (hs : P.underlying t = some (.struct fs)) (hone : oneCellFields P fs = true) (hC : P.cellsOf t = N)
    (hv : Value.okWide P w r b0 t v) (h : DataW.Trod enc P w base spare held t v d p) :
    ∃ cs : Array Value, v = .agg cs ∧ cs.size = N ∧ ∀ (i : Nat) (f : Field) (x : Value), fs[i]? = some f → cs[i]? = some x → ∃ n y, DataW.trod enc P w base spare held n f.type [x] = some y := by
  obtain ⟨cs, rfl, hsz⟩ := okWide_struct hs hv
  obtain ⟨fuel, hf⟩ := h
  obtain ⟨xs, n, _, hx, hl, hlen, hff⟩ := DataW.trod_struct hs hf
  refine ⟨cs, rfl, hsz.trans hC, fun i f x hfi hxi => ?_⟩
  obtain ⟨o, k⟩ := hone_of hone i f hfi
  have hi : i < xs.length := by rw [hlen]; have := (Array.getElem?_eq_some_iff.1 hfi).1; simpa using this
  have h1 := hff i f (by simpa using hfi)
  refine ⟨n, xs[i], ?_⟩
  rw [← List.getElem?_eq_getElem hi, ← h1, o, k]
  congr 1
  have hc : i < cs.size := (Array.getElem?_eq_some_iff.1 hxi).1
  have : cs.toList[i]? = some x := by simpa using hxi
  simp only [Value.cells]
  rw [List.drop_eq_getElem_cons (by simpa using hc)]
  simp only [List.take_succ_cons, List.take_zero]
  rw [List.getElem?_eq_getElem (by simpa using hc)] at this
  injection this with this
  rw [this]
end
theorem array9 {α : Type} {a : Array α} (h : a.size = 9) : ∃ x0 x1 x2 x3 x4 x5 x6 x7 x8, a = #[x0, x1, x2, x3, x4, x5, x6, x7, x8] := by
  obtain ⟨l⟩ := a
  match l, h with
  | [x0, x1, x2, x3, x4, x5, x6, x7, x8], _ => exact ⟨x0, x1, x2, x3, x4, x5, x6, x7, x8, rfl⟩
end Go.Proofs.Ytbjiicnagfeciaa
