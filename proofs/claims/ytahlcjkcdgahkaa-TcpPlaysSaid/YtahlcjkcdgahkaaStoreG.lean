/- A struct's store into a known block, as one step of the walk's simp: the store of one type is folded ahead of its unfolding. No program is named here. -/
import Derived.Test.YtahlcjkcdgahkaaRegion
import Derived.Test.YtahlcjkcdgahkaaKept
namespace Go.Proofs.Ytahlcjkcdgahkaa
open Go Go.RowKit

/- in a text that wants it: 'theorem fold_T (x y : Value) : Instr.storeAt T x y = storeG T x y := rfl', 'attribute [local go_sem ↓] fold_T', 'attribute [local go_sem] storeG_run lays_T'; before the store 'have hr : RoomFor w g n := (..).room' -/
def storeG (T : TypeId) (x y : Value) : Sem Unit := Instr.storeAt T x y
/-- block g holds m cells that may be written -/
def RoomFor (w : World) (g m : Nat) : Prop := ∃ t old, Blk w g t old ∧ old.length = m
theorem Blk.room {w : World} {g : Nat} {t : TypeId} {xs : List Value} (h : Blk w g t xs) : RoomFor w g xs.length := ⟨t, xs, h, rfl⟩
def Lays (P : Program) (T : TypeId) (cells : Array Value) : Prop := (P.info? T).map (·.size) = some cells.size ∧ cells.all (·.oneCell') = true
theorem storeG_run {P : Program} {w : World} {T : TypeId} {g : Nat} {cells : Array Value} (h1 : Lays P T cells) (h : RoomFor w g cells.size) : (storeG T (.pointer (some ⟨g, 0, none⟩)) (.agg cells)).run P w = .ok () (w.setRow g cells) := by
  obtain ⟨t, old, hb, hl⟩ := h
  unfold storeG
  simp only [Instr.storeAt, Instr.sureAddr, Sem.run_bind, Sem.run_pure, Result.andThen_ok]
  exact run_storeVar_row w g t _ old.toArray _ hb h1.1 (by simpa using hl) h1.2
theorem grown_setRow (w : World) (g : Nat) (cells : Array Value) : w.grownBy (w.setRow g cells) (some g) :=
  ⟨rfl, rfl, rfl, by simp [World.setRow], fun k _ hk => setRow_other w g k _ (fun e => hk (by rw [e]))⟩
theorem Blk.setRow {w : World} {g : Nat} {t : TypeId} {xs : List Value} (h : Blk w g t xs) (cells : Array Value) : Blk (w.setRow g cells) g t cells.toList := by
  have := setRow_heap w g xs.toArray cells t _ h
  simpa [Blk] using this
theorem size_setRow (w : World) (g : Nat) (cells : Array Value) : (w.setRow g cells).heap.size = w.heap.size := by simp [World.setRow]
end Go.Proofs.Ytahlcjkcdgahkaa
