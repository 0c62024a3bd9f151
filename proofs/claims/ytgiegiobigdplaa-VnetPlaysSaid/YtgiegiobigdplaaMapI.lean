/- A map from ints to whatever values, as a function of the key: what is looked up, stored, deleted. No program is named here. -/
import Derived.Test.YtgiegiobigdplaaRegion2
import Derived.Test.YtgiegiobigdplaaKept
import Derived.Maps.OwnSet
namespace Go.Proofs.Ytgiegiobigdplaa
open Go Go.RowKit
open Go.Maps (Keyed)
open Go.ChangeMaps Go.MapKept Go.WideShapes

/-- a value, held as it is -/
def anyR : Value → Option (DataW Value × List MemPlace) := fun v => some (.held v, [])
def optD (o : Option Value) (z : DataW Value) : DataW Value := match o with
  | none => z
  | some v => .held v
/-- block b is a map of at most n entries; at each key stands what f says -/
def MapI (P : Program) (k : TypeId) (w : World) (b n : Nat) (f : Nat → Option Value) : Prop :=
  ∃ D : DataW Value, w.ownsMap P k anyR b n D ∧ ∀ x : Nat, x < 4294967296 → ∀ z, D.atKey (.int .i64 (x : Int)) z = optD (f x) z
/-- f, but o at x -/
def updI (f : Nat → Option Value) (x : Nat) (o : Option Value) : Nat → Option Value := fun y => if y = x then o else f y

section
variable {P : Program} {k : TypeId} {w w' : World} {b n : Nat} {f : Nat → Option Value}

theorem key_int (hk : P.underlying k = some (.int .i64)) (x : Nat) (hx : x < 4294967296) : keyOf P k (.int .i64 (x : Int)) = some (.int .i64 (x : Int)) := by
  have hw : (Lit.int .i64 (x : Int)).wf = true := by
    simp [Lit.wf, IntKind.min, IntKind.max, IntKind.bits, IntKind.signed]; omega
  unfold keyOf mapKey
  rw [hk]
  simp [hw]
theorem MapI.made (P : Program) (k : TypeId) (w : World) : MapI P k (w.alloc (.map #[] 0)) w.heap.size 0 (fun _ => none) :=
  ⟨_, World.ownsMap_made w P k anyR, fun _ _ _ => rfl⟩
theorem MapI.mono (h : MapI P k w b n f) {n' : Nat} (hn : n ≤ n') : MapI P k w b n' f := by
  obtain ⟨D, h1, h2⟩ := h
  exact ⟨D, h1.mono hn, h2⟩
theorem MapI.lt (h : MapI P k w b n f) : b < w.heap.size := by obtain ⟨D, h1, _⟩ := h; exact h1.lt
theorem MapI.block (h : MapI P k w b n f) (hb : w'.heap[b]? = w.heap[b]?) : MapI P k w' b n f := by
  obtain ⟨D, ⟨es, clock, q1, q2⟩, h2⟩ := h
  exact ⟨D, ⟨es, clock, hb.trans q1, q2⟩, h2⟩
theorem MapI.isMap (h : MapI P k w b n f) : ∃ es clock, w.heap[b]? = some (.map es clock) := by
  obtain ⟨D, ⟨es, clock, q1, _⟩, _⟩ := h
  exact ⟨es, clock, q1⟩
theorem MapI.keep (h : MapI P k w b n f) (hb : Below w.heap.size w w') : MapI P k w' b n f := h.block (hb.block b h.lt)
theorem MapI.drew (h : MapI P k w b n f) : MapI P k w.drew b n f := h
theorem MapI.drewN (h : MapI P k w b n f) (m : Nat) : MapI P k (w.drewN m) b n f := h
/-- a map's block is none of cells -/
theorem MapI.ne {g : Nat} {t : TypeId} {xs : List Value} (h : MapI P k w b n f) (hb : Blk w g t xs) : g ≠ b := by
  obtain ⟨es, clock, hm⟩ := h.isMap
  intro e
  subst e
  unfold Blk at hb
  rw [hb] at hm
  cases hm
theorem MapI.kept {row : Option Nat} (h : MapI P k w b n f) (hg : w.grownBy w' row) (hne : some b ≠ row) : MapI P k w' b n f := h.block (hg.block b h.lt hne)
theorem MapI.grownCells {g : Nat} {t : TypeId} {xs : List Value} (h : MapI P k w b n f) (hb : Blk w g t xs) (hg : w.grownBy w' (some g)) : MapI P k w' b n f := h.kept hg (fun e => by injection e with e; exact h.ne hb e.symm)
theorem Blk.mapWrite {g : Nat} {t : TypeId} {xs : List Value} (hb : Blk w g t xs) (h : MapI P k w b n f) (hg : w.grownBy w' (some b)) : Blk w' g t xs := hb.grown hg (fun e => by injection e with e; exact h.ne hb e)

theorem MapI.look {t e : TypeId} (h : MapI P k w b n f) (hk : P.underlying k = some (.int .i64)) (ht : P.underlying t = some (.map k e)) {z : Value} (hz : (zeroValue e).run P w = .ok z w) (x : Nat) (hx : x < 4294967296) :
    (Instr.lookup t (.map (some b)) (.int .i64 (x : Int)) false).run P w = .ok ((f x).getD z) w := by
  obtain ⟨D, h1, h2⟩ := h
  obtain ⟨v, ps, hrun, hv⟩ := h1.lookup (Maps.int_keyed hk) ht hz (zd := .held z) (zp := []) rfl (key_int hk x hx)
  rw [h2 x hx] at hv
  rw [hrun]
  unfold anyR at hv
  simp only [Option.some.injEq, Prod.mk.injEq] at hv
  cases hf : f x with
  | none => rw [hf] at hv; simp [optD] at hv; rw [hv.1]; rfl
  | some u => rw [hf] at hv; simp [optD] at hv; rw [hv.1]; rfl
theorem MapI.lookOk {t e : TypeId} (h : MapI P k w b n f) (hk : P.underlying k = some (.int .i64)) (ht : P.underlying t = some (.map k e)) {z : Value} (hz : (zeroValue e).run P w = .ok z w) (x : Nat) (hx : x < 4294967296) :
    (Instr.lookup t (.map (some b)) (.int .i64 (x : Int)) true).run P w = .ok (.tuple #[(f x).getD z, .bool (f x).isSome]) w := by
  obtain ⟨D, h1, h2⟩ := h
  obtain ⟨v, ps, hrun, hv⟩ := h1.look_ok (Maps.int_keyed hk) ht hz (zd := .held z) (zp := []) rfl (key_int hk x hx)
  have h3 := h2 x hx
  rw [h2 x hx] at hv
  rw [hrun]
  unfold anyR at hv
  simp only [Option.some.injEq, Prod.mk.injEq] at hv
  cases hf : f x with
  | none =>
    rw [hf] at hv h3
    simp [optD] at hv
    rw [hv.1, Maps.has_false_of_atKey (fun z => h3 z)]
    rfl
  | some u =>
    rw [hf] at hv h3
    simp [optD] at hv
    rw [hv.1, Maps.has_true_of_atKey (fun z => h3 z)]
    rfl
theorem MapI.put {t e : TypeId} (h : MapI P k w b n f) (hk : P.underlying k = some (.int .i64)) (ht : P.underlying t = some (.map k e)) (hn : n < maxLen) (x : Nat) (hx : x < 4294967296) (v : Value) :
    ∃ w', (Instr.mapUpdate t (.map (some b)) (.int .i64 (x : Int)) v).run P w = .ok () w' ∧ MapI P k w' b (n + 1) (updI f x (some v)) ∧ w.grownBy w' (some b) := by
  obtain ⟨D, h1, h2⟩ := h
  obtain ⟨w', hrun, r1, r2⟩ := h1.update (Maps.int_keyed hk) ht hn (key_int hk x hx) (d := .held v) (ps := []) rfl
  refine ⟨w', hrun, ⟨_, r1, fun y hy z => ?_⟩, r2⟩
  unfold updI
  by_cases e1 : y = x
  · subst e1
    rw [if_pos rfl, Maps.atKey_put_same h1.isMap ((Maps.int_keyed hk).key (key_int hk y hx))]
    rfl
  · rw [if_neg e1, Maps.atKey_put_other (fun e2 => e1 (by injection e2 with _ e2; omega)), h2 y hy]
theorem mapTurned_grown (h : w.mapTurned w' b) : w.grownBy w' (some b) := by
  obtain ⟨es, clock, es', clock', hb, rfl⟩ := h
  exact ⟨rfl, rfl, rfl, by simp [setBlock], fun i _ hi => heap_setBlock_other hb _ (fun e => hi (by rw [e]))⟩
theorem MapI.drop {t e : TypeId} (h : MapI P k w b n f) (hk : P.underlying k = some (.int .i64)) (ht : P.underlying t = some (.map k e)) (x : Nat) (hx : x < 4294967296) (ty : TypeId) :
    ∃ w', (Builtin.delete_ #[t, k] ty #[.map (some b), .int .i64 (x : Int)]).run P w = .ok (.tuple #[]) w' ∧ MapI P k w' b n (updI f x none) ∧ w.grownBy w' (some b) := by
  obtain ⟨D, h1, h2⟩ := h
  obtain ⟨w', hrun, r1, r2⟩ := h1.drop (Maps.int_keyed hk) ht (key_int hk x hx) ty
  refine ⟨w', hrun, ⟨_, r1, fun y hy z => ?_⟩, mapTurned_grown r2⟩
  unfold updI
  by_cases e1 : y = x
  · subst e1
    rw [if_pos rfl, Maps.atKey_del_same]
    rfl
  · rw [if_neg e1, Maps.atKey_del_other (fun e2 => e1 (by injection e2 with _ e2; omega)), h2 y hy]

/-- delete at a step of a drawn region -/
theorem step_deleteI {ops : Array Oper} {o : Oper} {a : Act} {K : Act → World → Prop} {Q : Exit → Act → World → Prop} {Ep : Prop} (hgd : o.guard = none) (m x : Operand) (t e : TypeId)
    (ho : o.op = .call { callee := .builtin .delete, args := #[m, x], argTypes := #[t, k] })
    (hk : P.underlying k = some (.int .i64)) (ht : P.underlying t = some (.map k e)) (hm : a.eval m = .map (some b)) (hown : MapI P k w b n f) (y : Nat) (hy : y < 4294967296) (hx : a.eval x = .int .i64 (y : Int))
    (h : ∀ w', MapI P k w' b n (updI f y none) → w.grownBy w' (some b) → K (a.put o.dst (.tuple #[])) w') :
    if Region.wanted o (yielded ops a.tmps) = true then Oper.wp P o a w K Q else Ep := by
  have hw : Region.wanted o (yielded ops a.tmps) = true := by simp [Region.wanted, hgd]
  rw [if_pos hw]
  obtain ⟨w', hrun, r1, r2⟩ := hown.drop hk ht y hy o.type
  unfold Oper.wp
  simp [execOp, ho, resolve, invoke, builtin, hm, hx, hrun, Result.andThen]
  exact h w' r1 r2
/-- delete in a plain walk -/
theorem wpList_deleteI {ops : Array Oper} {rest : List Oper} {o : Oper} {a : Act} {Q : Exit → Act → World → Prop} (hgd : o.guard = none) (m x : Operand) (t e : TypeId)
    (ho : o.op = .call { callee := .builtin .delete, args := #[m, x], argTypes := #[t, k] })
    (hk : P.underlying k = some (.int .i64)) (ht : P.underlying t = some (.map k e)) (hm : a.eval m = .map (some b)) (hown : MapI P k w b n f) (y : Nat) (hy : y < 4294967296) (hx : a.eval x = .int .i64 (y : Int))
    (h : ∀ w', MapI P k w' b n (updI f y none) → w.grownBy w' (some b) → wpList P ops Q rest (a.put o.dst (.tuple #[])) w') : wpList P ops Q (o :: rest) a w := by
  refine wpList_plain hgd fun K hK => ?_
  obtain ⟨w', hrun, r1, r2⟩ := hown.drop hk ht y hy o.type
  unfold Oper.wp
  simp [execOp, ho, resolve, invoke, builtin, hm, hx, hrun, Result.andThen]
  exact hK _ _ (h w' r1 r2)
end
end Go.Proofs.Ytgiegiobigdplaa
