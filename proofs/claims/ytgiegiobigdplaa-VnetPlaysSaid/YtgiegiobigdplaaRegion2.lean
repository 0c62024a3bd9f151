/- More laws at a step of a region that draws its order: an append of elements of any size, a struct's load. No program is named here. -/
import Derived.Test.YtgiegiobigdplaaRegion
import Derived.Deep.MidRow
namespace Go.Proofs.Ytgiegiobigdplaa
open Go Go.RowKit

theorem step_appG {P : Program} (w : World) {ops : Array Oper} {o : Oper} {a : Act} {K : Act → World → Prop} {Q : Exit → Act → World → Prop} {Ep : Prop} (hgd : o.guard = none) (s x : Operand) (T : TypeId)
    (ho : o.op = .call { callee := .builtin .append, args := #[s, x], argTypes := #[T, T] })
    (base : Nat) (E : TypeId) (z : Value) (size bytes : Nat) (he : ElemOk P T E z size bytes)
    (v : Value) (n : Nat) (xs : List Value) (hs : a.eval s = v) (hown : w.ownsRow base E size v n xs) (y : Value) (m : Nat) (ys : List Value) (hx : a.eval x = y) (hr : RowN w size y m ys) (h1 : ∀ u ∈ ys, u.oneCell' = true)
    (hb : (n + m) * bytes ≤ 200000000000000) (h63 : n + m ≤ maxLen) (hbase : base ≤ w.heap.size)
    (h : ∀ v' w', w'.ownsRow base E size v' (n + m) (xs ++ ys) → w.grownBy w' v.ownBlock → K (a.put o.dst v') w') :
    if Region.wanted o (yielded ops a.tmps) = true then Oper.wp P o a w K Q else Ep := by
  have hw : Region.wanted o (yielded ops a.tmps) = true := by simp [Region.wanted, hgd]
  rw [if_pos hw]
  obtain ⟨v', w', hrun, h2, h3, _⟩ := run_app (P := P) w base T E o.type z size bytes he v n xs hown y m ys hr h1 hb h63 hbase
  unfold Oper.wp execOp
  simp only [ho, resolve, invoke, builtin, Sem.run_bind, Sem.run_pure, Result.andThen_ok, List.map_toArray, List.map_cons, List.map_nil, hs, hx, hrun]
  exact h v' w' h2 h3

theorem step_loadBlk {P : Program} (w : World) {ops : Array Oper} {o : Oper} {a : Act} {K : Act → World → Prop} {Q : Exit → Act → World → Prop} {Ep : Prop} (hgd : o.guard = none) (ty : TypeId) (x : Operand) (ho : o.op = .load ty x)
    (g : Nat) (hx : a.eval x = .pointer (some ⟨g, 0, none⟩)) (t : TypeId) (cs : List Value) (fs : Array Field) (hg : Blk w g t cs)
    (hu : P.underlying ty = some (.struct fs)) (hi : (P.info? ty).map (·.size) = some cs.length)
    (h : K (a.put o.dst (.agg cs.toArray)) w) :
    if Region.wanted o (yielded ops a.tmps) = true then Oper.wp P o a w K Q else Ep := by
  have hw : Region.wanted o (yielded ops a.tmps) = true := by simp [Region.wanted, hgd]
  rw [if_pos hw]
  exact wp_load_row ty x ho g hx t cs.toArray (0, 0) _ hg hu rfl (by simpa using hi) h

theorem step_loadMid {P : Program} (w : World) {ops : Array Oper} {o : Oper} {a : Act} {K : Act → World → Prop} {Q : Exit → Act → World → Prop} {Ep : Prop} (hgd : o.guard = none) (ty : TypeId) (x : Operand) (ho : o.op = .load ty x)
    (b off : Nat) (hx : a.eval x = .pointer (some ⟨b, off, none⟩)) (cs : List Value) (fs : Array Field) (hc : w.rangeAt b off cs)
    (hu : P.underlying ty = some (.struct fs)) (hi : (P.info? ty).map (·.size) = some cs.length)
    (h : K (a.put o.dst (.agg cs.toArray)) w) :
    if Region.wanted o (yielded ops a.tmps) = true then Oper.wp P o a w K Q else Ep := by
  have hw : Region.wanted o (yielded ops a.tmps) = true := by simp [Region.wanted, hgd]
  rw [if_pos hw]
  exact wp_load_mid ty x ho b off hx cs _ hc hu rfl hi h

theorem rowS_lit {w : World} {e : TypeId} (size : Nat) (cs : Array Value) (n H : Nat) (hn : cs.size = n * size) (hH : H = w.heap.size) (hm : n ≤ maxLen) :
    RowN (w.alloc (.cells cs e)) size (.slice (some ⟨H, 0, none⟩) n n) n cs.toList := by
  subst hH
  exact ⟨by simpa using hn, _, _, rfl, Nat.le_refl _, hm, .inr ⟨w.heap.size, 0, rfl, fun i x hx => by rw [Nat.zero_add, (Blk.new w e cs).cell i]; exact hx⟩⟩
theorem slice_len {w : World} {v : Value} {bs : List UInt8} {n : Nat} (h : Bs w v bs) (hn : bs.length = n) : ∃ A c, v = .slice A n c := by
  subst hn
  obtain ⟨_, A, c, rfl, _⟩ := h
  exact ⟨A, c, rfl⟩
end Go.Proofs.Ytgiegiobigdplaa
