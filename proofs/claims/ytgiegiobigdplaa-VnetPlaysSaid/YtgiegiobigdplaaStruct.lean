/- A struct in a block of its own: stored whole, read whole, handed back. No program is named here. -/
import Derived.Test.YtgiegiobigdplaaBase
import Derived.Laws.Tables
import Derived.Laws.ResultCell
namespace Go.Proofs.Ytgiegiobigdplaa
open Go Go.RowKit

theorem wpList_storeBlk {P : Program} {w : World} {ops : Array Oper} {rest : List Oper} {o : Oper} {a : Act} {Q : Exit → Act → World → Prop} (hgd : o.guard = none) (ty : TypeId) (x y : Operand) (ho : o.op = .store ty x y)
    (g : Nat) (cells : Array Value) (hx : a.eval x = .pointer (some ⟨g, 0, none⟩)) (hy : a.eval y = .agg cells) (t : TypeId) (old : List Value) (hg : Blk w g t old) (hi : (P.info? ty).map (·.size) = some cells.size)
    (hold : old.length = cells.size) (h1 : cells.toList.all (·.oneCell') = true)
    (h : ∀ w', Blk w' g t cells.toList → w.grownBy w' (some g) → w'.heap.size = w.heap.size → wpList P ops Q rest (a.put o.dst undef) w') : wpList P ops Q (o :: rest) a w := by
  refine wpList_store_row hgd ty x y ho g cells hx hy t old.toArray hg hi (by simpa using hold) (by rw [Array.all_toList] at h1; exact h1) ?_
  refine h _ ?_ ⟨rfl, rfl, rfl, by simp [World.setRow], fun k _ hk => setRow_other w g k _ (fun e => hk (by rw [e]))⟩ (by simp [World.setRow])
  have := setRow_heap w g old.toArray cells t _ hg
  simpa [Blk] using this

theorem wpList_loadBlk {P : Program} {w : World} {ops : Array Oper} {rest : List Oper} {o : Oper} {a : Act} {Q : Exit → Act → World → Prop} (hgd : o.guard = none) (ty : TypeId) (x : Operand) (ho : o.op = .load ty x)
    (g : Nat) (hx : a.eval x = .pointer (some ⟨g, 0, none⟩)) (t : TypeId) (cs : List Value) (fs : Array Field) (hg : Blk w g t cs)
    (hu : P.underlying ty = some (.struct fs)) (hi : (P.info? ty).map (·.size) = some cs.length)
    (h : wpList P ops Q rest (a.put o.dst (.agg cs.toArray)) w) : wpList P ops Q (o :: rest) a w :=
  wpList_load_row hgd ty x ho g hx t cs.toArray (0, 0) _ hg hu rfl (by simpa using hi) h

/-- handed back: a struct out of its block, and one value more -/
theorem ret_cell2 {P : Program} {fn : Func} {R : Ending → World → Prop} {a : Act} {w : World} {p u : Tmp} {ty : TypeId} (h : fn.results = #[.cell p ty, .tmp u]) (g : Nat) (t : TypeId) (cs : List Value) (fs : Array Field)
    (hp : a.tmps.getD p undef = .pointer (some ⟨g, 0, none⟩)) (hg : Blk w g t cs) (hu : P.underlying ty = some (.struct fs)) (hi : (P.info? ty).map (·.size) = some cs.length)
    (v : Value) (hv : a.tmps.getD u undef = v) (hd : a.defers = []) (hR : R (.returned (.tuple #[.agg cs.toArray, v])) w) : bodyPost P fn R .ret a w := by
  refine bodyPost_ret (v := .tuple #[.agg cs.toArray, v]) ?_ hd hR
  rw [results_cell_tmp h, hp, hv]
  simp [asAddr, Result.andThen, run_loadVar_row w g t ty cs.toArray (0, 0) _ hg hu rfl (by simpa using hi)]

/-- handed back: a struct out of its block -/
theorem ret_cell1 {P : Program} {fn : Func} {R : Ending → World → Prop} {a : Act} {w : World} {p : Tmp} {ty : TypeId} (h : fn.results = #[.cell p ty]) (g : Nat) (t : TypeId) (cs : List Value) (fs : Array Field)
    (hp : a.tmps.getD p undef = .pointer (some ⟨g, 0, none⟩)) (hg : Blk w g t cs) (hu : P.underlying ty = some (.struct fs)) (hi : (P.info? ty).map (·.size) = some cs.length)
    (hd : a.defers = []) (hR : R (.returned (.agg cs.toArray)) w) : bodyPost P fn R .ret a w :=
  bodyPost_ret (v := .agg cs.toArray) (results_cell_row h a.tmps w g t cs.toArray (0, 0) _ hp hg hu rfl (by simpa using hi)) hd hR

theorem Blk.far_grown {w w' : World} {g : Nat} {t : TypeId} {xs : List Value} (h : Blk w g t xs) (hb : Below w.heap.size w w') : Blk w' g t xs := h.keep hb
/-- a store into a block of the call's own leaves what is below -/
theorem below_own {a w w' : World} {B g : Nat} (h : Below B a w) (hg : w.grownBy w' (some g)) (hB : B ≤ g) (hw : B ≤ w.heap.size) : Below B a w' :=
  h.grown hg hw (fun k hk => by injection hk with hk; omega)
theorem ownBs_store {w w' : World} {base g : Nat} {e t : TypeId} {v : Value} {bs : List UInt8} {xs : List Value} (h : OwnBs w base e v bs) (hb : Blk w g t xs) (ht : t ≠ e) (hg : w.grownBy w' (some g)) : OwnBs w' base e v bs := by
  refine World.ownsRow.kept h hg ?_
  rcases hv : v.ownBlock with _ | g1
  · exact .inl rfl
  · right
    intro e2
    injection e2 with e2
    subst e2
    rcases h.2 with ⟨rfl, _⟩ | ⟨g2, cap, cur, rfl, _, hh, _⟩
    · simp [Value.ownBlock] at hv
    · simp [Value.ownBlock] at hv
      subst hv
      unfold Blk at hb
      rw [hb] at hh
      injection hh with hh
      injection hh with _ h3
      exact ht h3
end Go.Proofs.Ytgiegiobigdplaa
