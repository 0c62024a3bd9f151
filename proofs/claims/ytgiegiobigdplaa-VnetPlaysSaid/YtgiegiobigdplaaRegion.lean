/- The laws of append and of a struct's store, at a step of a region that draws its order. No program is named here. -/
import Derived.Test.YtgiegiobigdplaaStruct
import Derived.Deep.AppendLies
namespace Go.Proofs.Ytgiegiobigdplaa
open Go Go.RowKit

theorem wp_app8 {P : Program} (w : World) {o : Oper} {a : Act} {K : Act → World → Prop} {Q : Exit → Act → World → Prop} (s x : Operand) (T : TypeId)
    (ho : o.op = .call { callee := .builtin .append, args := #[s, x], argTypes := #[T, T] })
    (base : Nat) (E : TypeId) (he : ElemOk P T E (.int .u8 0) 1 1)
    (v : Value) (bs : List UInt8) (hs : a.eval s = v) (hown : OwnBs w base E v bs) (y : Value) (cs : List UInt8) (hx : a.eval x = y) (hr : Bs w y cs)
    (hb : bs.length + cs.length ≤ 200000000000000) (hbase : base ≤ w.heap.size)
    (h : ∀ v' w', OwnBs w' base E v' (bs ++ cs) → Below base w w' → w.grownBy w' v.ownBlock → K (a.put o.dst v') w') : o.wp P a w K Q := by
  obtain ⟨v', w', hrun, h2, h3, _⟩ := run_app (P := P) w base T E o.type (.int .u8 0) 1 1 he v bs.length _ hown y cs.length _ hr (u8_one cs) (by omega) (by simp only [maxLen]; omega) hbase
  unfold Oper.wp execOp
  simp only [ho, resolve, invoke, builtin, Sem.run_bind, Sem.run_pure, Result.andThen_ok, List.map_toArray, List.map_cons, List.map_nil, hs, hx, hrun]
  refine h v' w' ?_ ((Below.refl base w).grown h3 hbase fun k hk => (World.ownsRow.lt hown k hk).1) h3
  show World.ownsRow _ _ _ _ _ _ _
  rw [List.length_append, List.map_append]
  exact h2
theorem step_app8 {P : Program} (w : World) {ops : Array Oper} {o : Oper} {a : Act} {K : Act → World → Prop} {Q : Exit → Act → World → Prop} {Ep : Prop} (hgd : o.guard = none) (s x : Operand) (T : TypeId)
    (ho : o.op = .call { callee := .builtin .append, args := #[s, x], argTypes := #[T, T] })
    (base : Nat) (E : TypeId) (he : ElemOk P T E (.int .u8 0) 1 1)
    (v : Value) (bs : List UInt8) (hs : a.eval s = v) (hown : OwnBs w base E v bs) (y : Value) (cs : List UInt8) (hx : a.eval x = y) (hr : Bs w y cs)
    (hb : bs.length + cs.length ≤ 200000000000000) (hbase : base ≤ w.heap.size)
    (h : ∀ v' w', OwnBs w' base E v' (bs ++ cs) → Below base w w' → w.grownBy w' v.ownBlock → K (a.put o.dst v') w') :
    if Region.wanted o (yielded ops a.tmps) = true then Oper.wp P o a w K Q else Ep := by
  have hw : Region.wanted o (yielded ops a.tmps) = true := by simp [Region.wanted, hgd]
  rw [if_pos hw]
  exact wp_app8 w s x T ho base E he v bs hs hown y cs hx hr hb hbase h

/-- a block of another element type outlives an append -/
theorem Blk.app {w w' : World} {base g size n : Nat} {e t : TypeId} {v : Value} {us xs : List Value} (h : Blk w g t xs) (ho : w.ownsRow base e size v n us) (ht : t ≠ e) (hg : w.grownBy w' v.ownBlock) : Blk w' g t xs := by
  refine h.grown hg ?_
  rcases ho.2 with ⟨rfl, _⟩ | ⟨g2, cap, cur, rfl, _, hh, _⟩
  · simp [Value.ownBlock]
  · intro e2
    simp [Value.ownBlock] at e2
    subst e2
    unfold Blk at h
    rw [h] at hh
    injection hh with hh
    injection hh with _ h3
    exact ht h3
/-- the same, with what was below, and a struct's block, carried over -/
theorem step_app8b {P : Program} (w : World) {ops : Array Oper} {o : Oper} {a : Act} {K : Act → World → Prop} {Q : Exit → Act → World → Prop} {Ep : Prop} (hgd : o.guard = none) (s x : Operand) (T : TypeId)
    (ho : o.op = .call { callee := .builtin .append, args := #[s, x], argTypes := #[T, T] })
    (base : Nat) (E : TypeId) (he : ElemOk P T E (.int .u8 0) 1 1)
    (v : Value) (bs : List UInt8) (hs : a.eval s = v) (hown : OwnBs w base E v bs) (y : Value) (cs : List UInt8) (hx : a.eval x = y) (hr : Bs w y cs)
    (hb : bs.length + cs.length ≤ 200000000000000) (w0 : World) (hbel : Below base w0 w) (hw0 : base ≤ w0.heap.size) (g : Nat) (t : TypeId) (xs : List Value) (hblk : Blk w g t xs) (ht : t ≠ E)
    (h : ∀ A c w', OwnBs w' base E (.slice A (bs ++ cs).length c) (bs ++ cs) → Below base w0 w' → Blk w' g t xs → K (a.put o.dst (.slice A (bs ++ cs).length c)) w') :
    if Region.wanted o (yielded ops a.tmps) = true then Oper.wp P o a w K Q else Ep := by
  refine step_app8 w hgd s x T ho base E he v bs hs hown y cs hx hr hb (Nat.le_trans hw0 hbel.size) fun v' w' h1 h2 h3 => ?_
  obtain ⟨_, A, c, rfl, _⟩ := h1.bs
  exact h A c w' h1 (hbel.trans h2) (hblk.app hown ht h3)

theorem step_storeBlk {P : Program} (w : World) {ops : Array Oper} {o : Oper} {a : Act} {K : Act → World → Prop} {Q : Exit → Act → World → Prop} {Ep : Prop} (hgd : o.guard = none) (ty : TypeId) (x y : Operand) (ho : o.op = .store ty x y)
    (g : Nat) (cells : Array Value) (hx : a.eval x = .pointer (some ⟨g, 0, none⟩)) (hy : a.eval y = .agg cells) (t : TypeId) (old : List Value) (hg : Blk w g t old) (hi : (P.info? ty).map (·.size) = some cells.size)
    (hold : old.length = cells.size) (h1 : cells.toList.all (·.oneCell') = true)
    (h : ∀ w', Blk w' g t cells.toList → w.grownBy w' (some g) → w'.heap.size = w.heap.size → K (a.put o.dst undef) w') :
    if Region.wanted o (yielded ops a.tmps) = true then Oper.wp P o a w K Q else Ep := by
  have hw : Region.wanted o (yielded ops a.tmps) = true := by simp [Region.wanted, hgd]
  rw [if_pos hw]
  refine wp_store_row ty x y ho g cells hx hy t old.toArray hg hi (by simpa using hold) (by rw [Array.all_toList] at h1; exact h1) ?_
  refine h _ ?_ ⟨rfl, rfl, rfl, by simp [World.setRow], fun k _ hk => setRow_other w g k _ (fun e => hk (by rw [e]))⟩ (by simp [World.setRow])
  have := setRow_heap w g old.toArray cells t _ hg
  simpa [Blk] using this
theorem grown_set (w : World) (g i : Nat) (u : Value) : w.grownBy (w.setCell ⟨g, i, none⟩ u) (some g) :=
  ⟨rfl, rfl, rfl, by simp, fun k _ hk => Below.heap_setCell w _ u k (fun e => hk (by rw [e]))⟩
theorem grown_trans {w w1 w2 : World} {g : Option Nat} (h : w.grownBy w1 g) (h' : w1.grownBy w2 g) : w.grownBy w2 g := by
  obtain ⟨a, b, c, d, e⟩ := h
  obtain ⟨a', b', c', d', e'⟩ := h'
  exact ⟨a'.trans a, b'.trans b, c'.trans c, Nat.le_trans d d', fun k hk hn => (e' k (Nat.lt_of_lt_of_le hk d) hn).trans (e k hk hn)⟩
theorem set3 {w : World} {g : Nat} {t : TypeId} {x0 x1 x2 : Value} (h : Blk w g t [x0, x1, x2]) (y0 y1 y2 : Value) :
    Blk (((w.setCell ⟨g, 0, none⟩ y0).setCell ⟨g, 1, none⟩ y1).setCell ⟨g, 2, none⟩ y2) g t [y0, y1, y2] ∧ w.grownBy (((w.setCell ⟨g, 0, none⟩ y0).setCell ⟨g, 1, none⟩ y1).setCell ⟨g, 2, none⟩ y2) (some g) :=
  ⟨((h.set_ 0 y0).set_ 1 y1).set_ 2 y2, grown_trans (grown_trans (grown_set _ _ _ _) (grown_set _ _ _ _)) (grown_set _ _ _ _)⟩
theorem ownBs_litNil {w : World} {base H : Nat} {e : TypeId} (hH : H = w.heap.size) (hb : base ≤ H) : OwnBs (w.alloc (.cells #[] e)) base e (.slice (some ⟨H, 0, none⟩) 0 0) [] := by
  subst hH
  exact ownBs_lit #[] [] rfl hb (by simp)
theorem OwnBs.drewN {w : World} {base : Nat} {e : TypeId} {v : Value} {bs : List UInt8} (h : OwnBs w base e v bs) (n : Nat) : OwnBs (w.drewN n) base e v bs := h
end Go.Proofs.Ytgiegiobigdplaa
