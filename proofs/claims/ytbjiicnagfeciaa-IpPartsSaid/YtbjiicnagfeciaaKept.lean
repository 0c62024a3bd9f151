/- What stays while only new memory is made: rows of bytes, and blocks known whole. No program is named here. -/
import Derived.Test.YtbjiicnagfeciaaOwn
namespace Go.Proofs.Ytbjiicnagfeciaa
open Go Go.RowKit

structure Kept (w0 w : World) (l : List (Value × List UInt8)) (bl : List (Nat × TypeId × List Value)) : Prop where
  row : ∀ p ∈ l, Bs w p.1 p.2
  blk : ∀ p ∈ bl, Blk w p.1 p.2.1 p.2.2
  bel : Below w0.heap.size w0 w
theorem Kept.step {w0 w w' : World} {l : List (Value × List UInt8)} {bl : List (Nat × TypeId × List Value)} (h : Kept w0 w l bl) (k : Below w.heap.size w w') : Kept w0 w' l bl :=
  ⟨fun p hp => (h.row p hp).below k, fun p hp => (h.blk p hp).keep k, h.bel.trans (k.mono h.bel.size)⟩
theorem Kept.new (w : World) : Kept w w [] [] := ⟨fun _ h => (by cases h), fun _ h => (by cases h), Below.refl _ _⟩
theorem Kept.add {w0 w : World} {l : List (Value × List UInt8)} {bl : List (Nat × TypeId × List Value)} (h : Kept w0 w l bl) {v : Value} {b : List UInt8} (hb : Bs w v b) : Kept w0 w ((v, b) :: l) bl :=
  ⟨fun p hp => by
    rcases List.mem_cons.1 hp with rfl | hp
    · exact hb
    · exact h.row p hp, h.blk, h.bel⟩
theorem Kept.addB {w0 w : World} {l : List (Value × List UInt8)} {bl : List (Nat × TypeId × List Value)} (h : Kept w0 w l bl) {g : Nat} {t : TypeId} {xs : List Value} (hb : Blk w g t xs) : Kept w0 w l ((g, t, xs) :: bl) :=
  ⟨h.row, fun p hp => by
    rcases List.mem_cons.1 hp with rfl | hp
    · exact hb
    · exact h.blk p hp, h.bel⟩
theorem Kept.r {w0 w : World} {l : List (Value × List UInt8)} {bl : List (Nat × TypeId × List Value)} (h : Kept w0 w l bl) (i : Nat) {v : Value} {b : List UInt8} (hi : l[i]? = some (v, b) := by rfl) : Bs w v b :=
  h.row (v, b) (List.mem_of_getElem? hi)
theorem Kept.b {w0 w : World} {l : List (Value × List UInt8)} {bl : List (Nat × TypeId × List Value)} (h : Kept w0 w l bl) (i : Nat) {g : Nat} {t : TypeId} {xs : List Value} (hi : bl[i]? = some (g, t, xs) := by rfl) : Blk w g t xs :=
  h.blk (g, t, xs) (List.mem_of_getElem? hi)
/-- a store into a block that was made just now leaves what was before -/
theorem below_new_store {w w' : World} {o : Obj} (h : (w.alloc o).grownBy w' (some w.heap.size)) : Below w.heap.size w w' :=
  (below_alloc w o).grown h (by simp) (fun k hk => by injection hk with hk; omega)
end Go.Proofs.Ytbjiicnagfeciaa
