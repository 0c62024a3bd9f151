/- What stays but for the blocks of one structure. No program is named here. -/
import Derived.Test.YtgiegiobigdplaaRowAt

namespace Go.Proofs.Ytgiegiobigdplaa
open Go Go.RowKit

/-- w' is w with new blocks; of the old ones F's alone may have been written -/
structure Frame (F : Nat → Prop) (w w' : World) : Prop where
  os : w'.os = w.os
  tape : w'.tape = w.tape
  output : w'.output = w.output
  size : w.heap.size ≤ w'.heap.size
  block : ∀ k, k < w.heap.size → ¬ F k → w'.heap[k]? = w.heap[k]?
theorem Frame.refl (F : Nat → Prop) (w : World) : Frame F w w := ⟨rfl, rfl, rfl, Nat.le_refl _, fun _ _ _ => rfl⟩
theorem Frame.trans {F F' : Nat → Prop} {a b c : World} (h : Frame F a b) (k : Frame F' b c) (hF : ∀ i, i < a.heap.size → F' i → F i) : Frame F a c :=
  ⟨k.os.trans h.os, k.tape.trans h.tape, k.output.trans h.output, Nat.le_trans h.size k.size, fun i hi hn => (k.block i (Nat.lt_of_lt_of_le hi h.size) (fun hf => hn (hF i hi hf))).trans (h.block i hi hn)⟩
theorem Below.frameF {w w' : World} (h : Below w.heap.size w w') (F : Nat → Prop) : Frame F w w' := ⟨h.os, h.tape, h.output, h.size, fun i hi _ => h.block i hi⟩
theorem frame_grown {F : Nat → Prop} {w w' : World} {row : Option Nat} (h : w.grownBy w' row) (hF : ∀ g, row = some g → F g) : Frame F w w' :=
  ⟨h.os, h.tape, h.output, h.size, fun i hi hn => h.block i hi (fun e => hn (hF i e.symm))⟩
theorem Frame.below {F : Nat → Prop} {w w' : World} {base : Nat} (h : Frame F w w') (hF : ∀ k, F k → base ≤ k) (hb : base ≤ w.heap.size) : Below base w w' :=
  ⟨h.os, h.tape, h.output, h.size, fun i hi => h.block i (Nat.lt_of_lt_of_le hi hb) (fun hf => by have := hF i hf; omega)⟩
theorem Frame.blk {F : Nat → Prop} {w w' : World} {g : Nat} {t : TypeId} {xs : List Value} (h : Frame F w w') (hb : Blk w g t xs) (hn : ¬ F g) : Blk w' g t xs := (h.block g hb.lt hn).trans hb
theorem Frame.weaken {F F' : Nat → Prop} {w w' : World} (h : Frame F w w') (hF : ∀ i, i < w.heap.size → F i → F' i) : Frame F' w w' :=
  ⟨h.os, h.tape, h.output, h.size, fun i hi hn => h.block i hi (fun hf => hn (hF i hi hf))⟩
theorem Frame.own {F : Nat → Prop} {w w' : World} {base size n : Nat} {e : TypeId} {v : Value} {xs : List Value} (h : Frame F w w') (ho : w.ownsRow base e size v n xs) (hn : ∀ g, v.ownBlock = some g → ¬ F g) : w'.ownsRow base e size v n xs := by
  refine ⟨ho.1, ?_⟩
  rcases ho.2 with h0 | ⟨g, cap, cur, rfl, h1, h2, h3⟩
  · exact .inl h0
  · exact .inr ⟨g, cap, cur, rfl, h1, (h.block g (Array.getElem?_eq_some_iff.1 h2).1 (hn g rfl)).trans h2, h3⟩
theorem RowAtS.same {w w' : World} {base size n : Nat} {e : TypeId} {v : Value} {xs : List Value} (h : RowAtS w base e size v n xs) (hs : ∀ g, v.ownBlock = some g → w'.heap[g]? = w.heap[g]?) : RowAtS w' base e size v n xs := by
  refine ⟨h.1, ?_⟩
  rcases h.2 with h0 | ⟨g, off, cap, cur, rfl, h1, h2, h3⟩
  · exact .inl h0
  · exact .inr ⟨g, off, cap, cur, rfl, h1, (hs g rfl).trans h2, h3⟩
end Go.Proofs.Ytgiegiobigdplaa
