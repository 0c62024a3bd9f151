/- What stays while only new memory is made: rows of bytes, and blocks known whole. No program is named here. -/
import Derived.Test.YtgiegiobigdplaaRegion
namespace Go.Proofs.Ytgiegiobigdplaa
section
open Go Go.RowKit

/-- b[off:], of a slice that begins at the head of its block -/
theorem run_tail {P : Program} {T E : TypeId} {i : TypeInfo} (ht : P.underlying T = some (.slice E)) (hi : P.info? E = some i) (hs : i.size = 1) (g n cap : Nat) (k1 : IntKind) (lo : Int) (off : Nat)
    (h1 : lo = off) (h2 : off ≤ n) (h3 : n ≤ cap) (h4 : off < cap) (w : World) :
    (Instr.sliceAt T (.slice (some ⟨g, 0, none⟩) n cap) (some (.int k1 lo)) none none).run P w = .ok (.slice (some ⟨g, off, none⟩) (n - off) (cap - off)) w := by
  have := run_cut_from ht hi (some ⟨g, 0, none⟩) n cap k1 lo off (n - off) h1 (by omega) h3 w
  rw [this]
  unfold cutA
  rw [if_neg (by omega), Option.map_some, add_off, hs]
  simp

theorem own_open {w : World} {base : Nat} {e : TypeId} {v : Value} {bs : List UInt8} (h : OwnBs w base e v bs) (hp : 0 < bs.length) :
    ∃ g cap, v = .slice (some ⟨g, 0, none⟩) bs.length cap ∧ bs.length ≤ cap ∧ base ≤ g ∧ g < w.heap.size := by
  rcases h.2 with ⟨rfl, h0⟩ | ⟨g, cap, cur, rfl, hb, hg, h1, h2, h3, h4⟩
  · omega
  · exact ⟨g, cap, rfl, h1, hb, (Array.getElem?_eq_some_iff.1 hg).1⟩

theorem copy_take {α : Type} (X B c : List α) (n off : Nat) (hX : X.take n = B) (hn : n ≤ X.length) (h : off + c.length ≤ n) :
    (X.take off ++ (c ++ X.drop (off + c.length))).take n = B.take off ++ (c ++ B.drop (off + c.length)) := by
  have hB : B.length = n := by rw [← hX, List.length_take]; omega
  have e : X = B ++ X.drop n := by rw [← hX, List.take_append_drop]
  generalize X.drop n = R at e
  subst e
  clear hX
  have e1 : (B ++ R).take off = B.take off := List.take_append_of_le_length (by omega)
  have e2 : (B ++ R).drop (off + c.length) = B.drop (off + c.length) ++ R := List.drop_append_of_le_length (by omega)
  rw [e1, e2]
  have e3 : B.take off ++ (c ++ (B.drop (off + c.length) ++ R)) = (B.take off ++ (c ++ B.drop (off + c.length))) ++ R := by simp only [List.append_assoc]
  rw [e3]
  exact List.take_left' (by simp; omega)

/-- one place of a slice that the call owns: what stands there, and that it may be written -/
theorem own_cell {w : World} {base g cap n : Nat} {e : TypeId} {bs : List UInt8} (h : OwnBs w base e (.slice (some ⟨g, 0, none⟩) n cap) bs) (i : Nat) (hi : i < bs.length) :
    w.cell? ⟨g, i, none⟩ = some (u8v bs[i]) ∧ w.frozen? ⟨g, i, none⟩ = false := by
  rcases h.2 with ⟨h0, _⟩ | ⟨g', cap', cur, hv, hb, hg, h1, h2, h3, h4⟩
  · cases h0
  · injection hv with e1 e2 e3
    injection e1 with e1
    injection e1 with e1
    subst e1; subst e3
    have hblk : Blk w g e cur.toList := by unfold Blk; simpa using hg
    refine ⟨?_, hblk.frozen i⟩
    rw [hblk.cell i]
    have h5 : cur.toList.take bs.length = bs.map u8v := by simpa using h4
    have h6 : (cur.toList.take bs.length)[i]? = cur.toList[i]? := List.getElem?_take_of_lt hi
    rw [← h6, h5]
    simp [hi]
/-- one place of a slice that the call owns is written -/
theorem own_set {w : World} {base g cap n : Nat} {e : TypeId} {bs : List UInt8} (h : OwnBs w base e (.slice (some ⟨g, 0, none⟩) n cap) bs) (i : Nat) (x : UInt8) (u : Value) (hu : u = u8v x) :
    OwnBs (w.setCell ⟨g, i, none⟩ u) base e (.slice (some ⟨g, 0, none⟩) n cap) (bs.set i x) ∧ w.grownBy (w.setCell ⟨g, i, none⟩ u) (some g) := by
  subst hu
  refine ⟨?_, grown_set _ _ _ _⟩
  rcases h.2 with ⟨h0, _⟩ | ⟨g', cap', cur, hv, hb, hg, h1, h2, h3, h4⟩
  · cases h0
  · have hv' := hv
    injection hv with e1 e2 e3
    injection e1 with e1
    injection e1 with e1
    subst e1; subst e3
    have hblk : Blk w g e cur.toList := by unfold Blk; simpa using hg
    have hb' := hblk.set_ i (u8v x)
    unfold OwnBs
    rw [List.length_set]
    refine ⟨by simp, .inr ⟨g, cap, _, hv', hb, hb', h1, h2, by simpa using h3, ?_⟩⟩
    have h5 : cur.toList.take bs.length = bs.map u8v := by simpa using h4
    simp only [Nat.mul_one, List.take_set, h5, List.map_set]

/-- copy into a slice that the call owns, from its place 'off' on -/
theorem wpList_copy8 {P : Program} {w : World} {ops : Array Oper} {rest : List Oper} {o : Oper} {a : Act} {Q : Exit → Act → World → Prop} (hgd : o.guard = none) (d s : Operand) (T : TypeId)
    (ho : o.op = .call { callee := .builtin .copy, args := #[d, s], argTypes := #[T, T] }) (E : TypeId) (he : ElemOk P T E (.int .u8 0) 1 1)
    (base g cap : Nat) (bs : List UInt8) (hown : OwnBs w base E (.slice (some ⟨g, 0, none⟩) bs.length cap) bs) (off dLen dCap : Nat) (hd : a.eval d = .slice (some ⟨g, off, none⟩) dLen dCap) (hoff : off + dLen = bs.length)
    (y : Value) (cs : List UInt8) (hs : a.eval s = y) (hr : Bs w y cs) (hcs : cs.length ≤ dLen)
    (h : ∀ w', OwnBs w' base E (.slice (some ⟨g, 0, none⟩) bs.length cap) (bs.take off ++ (cs ++ bs.drop (off + cs.length))) → w.grownBy w' (some g) → w'.heap.size = w.heap.size → wpList P ops Q rest (a.put o.dst (goInt cs.length)) w') : wpList P ops Q (o :: rest) a w := by
  rcases hown.2 with ⟨h0, _⟩ | ⟨g', cap', cur, hv, hb, hg, h1, h2, h3, h4⟩
  · cases h0
  · injection hv with e1 e2 e3
    injection e1 with e1
    injection e1 with e1
    subst e1; subst e3
    have hblk : Blk w g E cur.toList := by unfold Blk; simpa using hg
    have hcl : cur.toList.length = cap := by simp only [Array.length_toList]; omega
    have htk : cs.take dLen = cs := List.take_of_length_le hcs
    refine wpList_copyBs hgd d s T ho E he g off dLen dCap hd y cs hs hr cur.toList E hblk (by omega) fun w' hb' hg' hsz => ?_
    rw [htk] at hb' 
    have hfin : OwnBs w' base E (.slice (some ⟨g, 0, none⟩) bs.length cap) (bs.take off ++ (cs ++ bs.drop (off + cs.length))) := by
      have hl : (bs.take off ++ (cs ++ bs.drop (off + cs.length))).length = bs.length := by simp; omega
      unfold OwnBs
      rw [hl]
      refine ⟨by simp; omega, .inr ⟨g, cap, _, rfl, hb, hb', h1, h2, ?_, ?_⟩⟩
      · simp only [List.size_toArray, List.length_append, List.length_take, List.length_map, List.length_drop, hcl]; omega
      · have h5 : cur.toList.take bs.length = bs.map u8v := by simpa using h4
        have := copy_take cur.toList (bs.map u8v) (cs.map u8v) bs.length off h5 (by omega) (by simp; omega)
        simp only [List.length_map] at this
        simp only [Nat.mul_one, this, List.map_append, List.map_take, List.map_drop]
    have := h w' hfin hg' hsz
    rw [htk]
    exact this
end
section
open Go Go.RowKit

structure Kept (w0 w : World) (l : List (Value × List UInt8)) (bl : List (Nat × TypeId × List Value)) : Prop where
  row : ∀ p ∈ l, Bs w p.1 p.2
  blk : ∀ p ∈ bl, Blk w p.1 p.2.1 p.2.2
  bel : Below w0.heap.size w0 w
theorem Kept.step {w0 w w' : World} {l : List (Value × List UInt8)} {bl : List (Nat × TypeId × List Value)} (h : Kept w0 w l bl) (k : Below w.heap.size w w') : Kept w0 w' l bl :=
  ⟨fun p hp => (h.row p hp).below k, fun p hp => (h.blk p hp).keep k, h.bel.trans (k.mono h.bel.size)⟩
theorem Kept.new (w : World) : Kept w w [] [] := ⟨fun _ h => (by cases h), fun _ h => (by cases h), Below.refl _ _⟩
theorem Kept.add {w0 w : World} {l : List (Value × List UInt8)} {bl : List (Nat × TypeId × List Value)} (h : Kept w0 w l bl) {v : Value} {b : List UInt8} (hb : Bs w v b) : Kept w0 w ((v, b) :: l) bl :=
  ⟨fun p hp => by
    rcases List.mem_cons.1 hp with rfl | hp
    · exact hb
    · exact h.row p hp, h.blk, h.bel⟩
theorem Kept.addB {w0 w : World} {l : List (Value × List UInt8)} {bl : List (Nat × TypeId × List Value)} (h : Kept w0 w l bl) {g : Nat} {t : TypeId} {xs : List Value} (hb : Blk w g t xs) : Kept w0 w l ((g, t, xs) :: bl) :=
  ⟨h.row, fun p hp => by
    rcases List.mem_cons.1 hp with rfl | hp
    · exact hb
    · exact h.blk p hp, h.bel⟩
theorem Kept.r {w0 w : World} {l : List (Value × List UInt8)} {bl : List (Nat × TypeId × List Value)} (h : Kept w0 w l bl) (i : Nat) {v : Value} {b : List UInt8} (hi : l[i]? = some (v, b) := by rfl) : Bs w v b :=
  h.row (v, b) (List.mem_of_getElem? hi)
theorem Kept.b {w0 w : World} {l : List (Value × List UInt8)} {bl : List (Nat × TypeId × List Value)} (h : Kept w0 w l bl) (i : Nat) {g : Nat} {t : TypeId} {xs : List Value} (hi : bl[i]? = some (g, t, xs) := by rfl) : Blk w g t xs :=
  h.blk (g, t, xs) (List.mem_of_getElem? hi)
/-- a store into a block that was made just now leaves what was before -/
theorem below_new_store {w w' : World} {o : Obj} (h : (w.alloc o).grownBy w' (some w.heap.size)) : Below w.heap.size w w' :=
  (below_alloc w o).grown h (by simp) (fun k hk => by injection hk with hk; omega)
end
end Go.Proofs.Ytgiegiobigdplaa
