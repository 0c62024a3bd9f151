/- A map of numbers is cleared. No program is named here. -/
import Derived.Test.YtahlcjkcdgahkaaMapU
namespace Go.Proofs.Ytahlcjkcdgahkaa
open Go Go.RowKit
open Go.Maps (Keyed)
open Go.ChangeMaps Go.MapKept Go.WideShapes

section
variable {P : Program} {k : TypeId} {w : World} {b n : Nat} {f : Nat → Option Value}
theorem MapU.clear_ {t e : TypeId} (h : MapU P k w b n f) (ht : P.underlying t = some (.map k e)) (ty : TypeId) :
    ∃ w', (Builtin.clear_ #[t] ty #[.map (some b)]).run P w = .ok (.tuple #[]) w' ∧ MapU P k w' b 0 (fun _ => none) ∧ w.grownBy w' (some b) := by
  obtain ⟨D, ⟨es, clock, hb, hF, hs, hD⟩, h2⟩ := h
  have hrun : (Builtin.clear_ #[t] ty #[.map (some b)]).run P w = .ok (.tuple #[]) (setBlock w b (.map #[] clock)) := by
    simp [Builtin.clear_, run_underlying ht, Go.MapKept.run_getObj_map hb, Go.MapKept.run_setObj_map _ hb, setBlock, Result.andThen]
  refine ⟨_, hrun, ⟨.map [], ⟨#[], clock, (heap_set hb).1, ⟨by simp, stamped_empty clock, by simp⟩, Nat.le_refl _, rfl⟩, fun _ _ _ => rfl⟩, ?_⟩
  exact ⟨rfl, rfl, rfl, by simp [setBlock], fun i _ hi => heap_setBlock_other hb _ (fun e => hi (by rw [e]))⟩
/-- clear in a plain walk -/
theorem wpList_clearU {ops : Array Oper} {rest : List Oper} {o : Oper} {a : Act} {Q : Exit → Act → World → Prop} (hgd : o.guard = none) (m : Operand) (t e : TypeId)
    (ho : o.op = .call { callee := .builtin .clear, args := #[m], argTypes := #[t] })
    (ht : P.underlying t = some (.map k e)) (hm : a.eval m = .map (some b)) (hown : MapU P k w b n f)
    (h : ∀ w', MapU P k w' b 0 (fun _ => none) → w.grownBy w' (some b) → wpList P ops Q rest (a.put o.dst (.tuple #[])) w') : wpList P ops Q (o :: rest) a w := by
  refine wpList_plain hgd fun K hK => ?_
  obtain ⟨w', hrun, r1, r2⟩ := hown.clear_ ht o.type
  unfold Oper.wp
  simp [execOp, ho, resolve, invoke, builtin, hm, hrun, Result.andThen]
  exact hK _ _ (h w' r1 r2)
end
end Go.Proofs.Ytahlcjkcdgahkaa
