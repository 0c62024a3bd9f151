/- A map from keys to pointers, as a function of the key: what is looked up, stored, deleted. No program is named here. -/
import Derived.Test.YtbjiicnagfeciaaRegion2
import Derived.Test.YtbjiicnagfeciaaKept
import Derived.Maps.OwnSet
namespace Go.Proofs.Ytbjiicnagfeciaa
open Go Go.RowKit
open Go.Maps (Keyed)
open Go.ChangeMaps Go.MapKept Go.WideShapes

/-- a pointer to the first cell of a block, or none -/
def ptrV : Option Nat → Value
  | none => .pointer none
  | some g => .pointer (some ⟨g, 0, none⟩)
def ptrD : Option Nat → DataW Unit
  | none => .nil
  | some g => .lit (.int .u64 (g : Int))
def ptrR : Value → Option (DataW Unit × List MemPlace)
  | .pointer none => some (.nil, [])
  | .pointer (some ⟨g, 0, none⟩) => some (.lit (.int .u64 (g : Int)), [])
  | _ => none
theorem ptrR_mk (o : Option Nat) : ptrR (ptrV o) = some (ptrD o, []) := by cases o <;> rfl
theorem ptrR_inv {v : Value} {o : Option Nat} {ps : List MemPlace} (h : ptrR v = some (ptrD o, ps)) : v = ptrV o := by
  unfold ptrR at h
  split at h
  · cases o
    · rfl
    · simp [ptrD] at h
  · rename_i g
    cases o
    · simp [ptrD] at h
    · rename_i g'
      simp [ptrD] at h
      obtain ⟨h, _⟩ := h
      have : g = g' := by omega
      subst this; rfl
  · cases h

/-- block b is a map of at most n entries; at each key stands what f says -/
def MapIs (P : Program) (k : TypeId) (w : World) (b n : Nat) (f : Value → Option Nat) : Prop :=
  ∃ D : DataW Unit, w.ownsMap P k ptrR b n D ∧ ∀ key kl, keyOf P k key = some kl → D.atKey kl .nil = ptrD (f key)
open Classical in
noncomputable def upd (f : Value → Option Nat) (key : Value) (o : Option Nat) : Value → Option Nat := fun x => if x = key then o else f x

section
variable {P : Program} {k : TypeId} {w w' : World} {b n : Nat} {f : Value → Option Nat}

theorem MapIs.made (P : Program) (k : TypeId) (w : World) : MapIs P k (w.alloc (.map #[] 0)) w.heap.size 0 (fun _ => none) :=
  ⟨_, World.ownsMap_made w P k ptrR, fun _ _ _ => rfl⟩
theorem MapIs.mono (h : MapIs P k w b n f) {n' : Nat} (hn : n ≤ n') : MapIs P k w b n' f := by
  obtain ⟨D, h1, h2⟩ := h
  exact ⟨D, h1.mono hn, h2⟩
theorem MapIs.lt (h : MapIs P k w b n f) : b < w.heap.size := by obtain ⟨D, h1, _⟩ := h; exact h1.lt
theorem MapIs.block (h : MapIs P k w b n f) (hb : w'.heap[b]? = w.heap[b]?) : MapIs P k w' b n f := by
  obtain ⟨D, ⟨es, clock, q1, q2⟩, h2⟩ := h
  exact ⟨D, ⟨es, clock, hb.trans q1, q2⟩, h2⟩
theorem MapIs.isMap (h : MapIs P k w b n f) : ∃ es clock, w.heap[b]? = some (.map es clock) := by
  obtain ⟨D, ⟨es, clock, q1, _⟩, _⟩ := h
  exact ⟨es, clock, q1⟩
theorem MapIs.keep (h : MapIs P k w b n f) (hb : Below w.heap.size w w') : MapIs P k w' b n f := h.block (hb.block b h.lt)
theorem MapIs.drew (h : MapIs P k w b n f) : MapIs P k w.drew b n f := h
theorem MapIs.drewN (h : MapIs P k w b n f) (m : Nat) : MapIs P k (w.drewN m) b n f := h

theorem MapIs.look {t e : TypeId} (h : MapIs P k w b n f) (K : Keyed P k) (ht : P.underlying t = some (.map k e)) (hz : (zeroValue e).run P w = .ok (.pointer none) w) {key : Value} {kl : Lit} (hkey : keyOf P k key = some kl) :
    (Instr.lookup t (.map (some b)) key false).run P w = .ok (ptrV (f key)) w := by
  obtain ⟨D, h1, h2⟩ := h
  obtain ⟨v, ps, hrun, hv⟩ := h1.lookup K ht hz (zd := .nil) (zp := []) rfl hkey
  rw [h2 key kl hkey] at hv
  rw [hrun, ptrR_inv hv]
theorem MapIs.put {t e : TypeId} (h : MapIs P k w b n f) (K : Keyed P k) (ht : P.underlying t = some (.map k e)) (hn : n < maxLen) {key : Value} {kl : Lit} (hkey : keyOf P k key = some kl) (g : Nat) :
    ∃ w', (Instr.mapUpdate t (.map (some b)) key (ptrV (some g))).run P w = .ok () w' ∧ MapIs P k w' b (n + 1) (upd f key (some g)) ∧ w.grownBy w' (some b) := by
  obtain ⟨D, h1, h2⟩ := h
  obtain ⟨w', hrun, r1, r2⟩ := h1.update K ht hn hkey (ptrR_mk (some g))
  refine ⟨w', hrun, ⟨_, r1, fun x xl hx => ?_⟩, r2⟩
  unfold upd
  by_cases e1 : x = key
  · subst e1
    rw [hkey] at hx
    injection hx with hx
    subst hx
    rw [if_pos rfl, Maps.atKey_put_same h1.isMap (K.key hkey)]
  · rw [if_neg e1, Maps.atKey_put_other (show xl ≠ kl from fun e2 => e1 (K.inj hx (by rw [e2]; exact hkey))), h2 x xl hx]
theorem mapTurned_grown (h : w.mapTurned w' b) : w.grownBy w' (some b) := by
  obtain ⟨es, clock, es', clock', hb, rfl⟩ := h
  exact ⟨rfl, rfl, rfl, by simp [setBlock], fun i _ hi => heap_setBlock_other hb _ (fun e => hi (by rw [e]))⟩
theorem MapIs.drop {t e : TypeId} (h : MapIs P k w b n f) (K : Keyed P k) (ht : P.underlying t = some (.map k e)) {key : Value} {kl : Lit} (hkey : keyOf P k key = some kl) (ty : TypeId) :
    ∃ w', (Builtin.delete_ #[t, k] ty #[.map (some b), key]).run P w = .ok (.tuple #[]) w' ∧ MapIs P k w' b n (upd f key none) ∧ w.grownBy w' (some b) := by
  obtain ⟨D, h1, h2⟩ := h
  obtain ⟨w', hrun, r1, r2⟩ := h1.drop K ht hkey ty
  refine ⟨w', hrun, ⟨_, r1, fun x xl hx => ?_⟩, mapTurned_grown r2⟩
  unfold upd
  by_cases e1 : x = key
  · subst e1
    rw [hkey] at hx
    injection hx with hx
    subst hx
    rw [if_pos rfl, Maps.atKey_del_same]
    rfl
  · rw [if_neg e1, Maps.atKey_del_other (show xl ≠ kl from fun e2 => e1 (K.inj hx (by rw [e2]; exact hkey))), h2 x xl hx]

/-- delete at a step of a drawn region -/
theorem step_delete {ops : Array Oper} {o : Oper} {a : Act} {K : Act → World → Prop} {Q : Exit → Act → World → Prop} {Ep : Prop} (hgd : o.guard = none) (m x : Operand) (t e : TypeId)
    (ho : o.op = .call { callee := .builtin .delete, args := #[m, x], argTypes := #[t, k] })
    (KK : Keyed P k) (ht : P.underlying t = some (.map k e)) (hm : a.eval m = .map (some b)) (hown : MapIs P k w b n f) (key : Value) (kl : Lit) (hx : a.eval x = key) (hkey : keyOf P k key = some kl)
    (h : ∀ w', MapIs P k w' b n (upd f key none) → w.grownBy w' (some b) → K (a.put o.dst (.tuple #[])) w') :
    if Region.wanted o (yielded ops a.tmps) = true then Oper.wp P o a w K Q else Ep := by
  have hw : Region.wanted o (yielded ops a.tmps) = true := by simp [Region.wanted, hgd]
  rw [if_pos hw]
  obtain ⟨w', hrun, r1, r2⟩ := hown.drop KK ht hkey o.type
  unfold Oper.wp
  simp [execOp, ho, resolve, invoke, builtin, hm, hx, hrun, Result.andThen]
  exact h w' r1 r2
end
end Go.Proofs.Ytbjiicnagfeciaa
