/- Segments in order, each with its bytes, owned. No program is walked here. -/
import Derived.Test.YtahlcjkcdgahkaaTcpS
import Derived.Test.YtahlcjkcdgahkaaTcpD
namespace Go.Proofs.Ytahlcjkcdgahkaa
open Go Go.RowKit

def sgRow (qs : List (TSeg × Value)) : List Value := qs.flatMap fun q => q.1.cells q.2
theorem sgCells_len (s : TSeg) (v : Value) : (s.cells v).length = 8 := rfl
theorem sgRow_len (qs : List (TSeg × Value)) : (sgRow qs).length = qs.length * 8 := by
  induction qs with
  | nil => rfl
  | cons q qs ih => simp only [sgRow, List.flatMap_cons, List.length_append] at ih ⊢; rw [ih, sgCells_len, List.length_cons]; omega
theorem sgRow_snoc (qs : List (TSeg × Value)) (p : TSeg) (v : Value) : sgRow (qs ++ [(p, v)]) = sgRow qs ++ p.cells v := by simp [sgRow]
theorem sgRow_append (qs rs : List (TSeg × Value)) : sgRow (qs ++ rs) = sgRow qs ++ sgRow rs := by simp [sgRow]
/-- the cells of the segment number i -/
theorem sgRow_at (qs : List (TSeg × Value)) (i j : Nat) (hi : i < qs.length) (hj : j < 8) : (sgRow qs)[8 * i + j]? = (qs[i].1.cells qs[i].2)[j]? := by
  induction qs generalizing i with
  | nil => simp at hi
  | cons q qs ih =>
    simp only [sgRow, List.flatMap_cons]
    cases i with
    | zero => rw [List.getElem?_append_left (by rw [sgCells_len]; omega)]; simp
    | succ i =>
      rw [List.getElem?_append_right (by rw [sgCells_len]; omega), sgCells_len, show 8 * (i + 1) + j - 8 = 8 * i + j by omega]
      exact ih i (by simpa using hi)
/-- a slice of segments, owned, with their bytes -/
structure OwnSgs (w : World) (base : Nat) (v : Value) (qs : List (TSeg × Value)) : Prop where
  datas : ∀ q ∈ qs, OwnBs w base 5 q.2 q.1.data
  row : w.ownsRow base 30 8 v qs.length (sgRow qs)
theorem OwnSgs.below {w w' : World} {base : Nat} {v : Value} {qs : List (TSeg × Value)} (h : OwnSgs w base v qs) (hb : Below w.heap.size w w') : OwnSgs w' base v qs :=
  ⟨fun q hq => (h.datas q hq).below hb, own_below h.row hb⟩
theorem OwnSgs.mono {w : World} {base base' : Nat} {v : Value} {qs : List (TSeg × Value)} (h : OwnSgs w base v qs) (hb : base' ≤ base) : OwnSgs w base' v qs := ⟨fun q hq => (h.datas q hq).mono hb, own_mono h.row hb⟩
theorem OwnSgs.nil (w : World) (base : Nat) : OwnSgs w base (.slice none 0 0) [] := ⟨fun _ h => (by cases h), World.ownsRow_nil _ _ _ _⟩
/-- what is stored into blocks before base leaves it -/
theorem OwnSgs.frame {w w' : World} {base : Nat} {v : Value} {qs : List (TSeg × Value)} {F : Nat → Prop} (h : OwnSgs w base v qs) (hf : Frame F w w') (hF : ∀ k, F k → k < base) : OwnSgs w' base v qs :=
  ⟨fun q hq => hf.own (h.datas q hq) (fun g hg hF' => by have := (World.ownsRow.lt (h.datas q hq) g hg).1; have := hF g hF'; omega), hf.own h.row (fun g hg hF' => by have := (World.ownsRow.lt h.row g hg).1; have := hF g hF'; omega)⟩
def sgzero : Value := .agg #[.int .i64 0, .int .i64 0, .int .u32 0, .int .u32 0, .int .i64 0, .int .i64 0, .int .i64 0, .slice none 0 0]
theorem seginfo2 : (Try.prog.info? 30).map (fun i => (i.zero, i.size, i.bytes)) = some (some sgzero, 8, 72) := by kernel_rfl
theorem sgok : ElemOk Try.prog 31 30 sgzero 8 72 := by
  obtain ⟨i, hi, h1, h2, h3⟩ := info_parts seginfo2
  exact ⟨Try.underlying31, ⟨i, hi, h1, h2, h3⟩, rfl, by decide, by decide⟩
/-- a slice of just these segments, owned -/
def OwnSgL (w : World) (base : Nat) (v : Value) (l : List TSeg) : Prop := ∃ qs, OwnSgs w base v qs ∧ qs.map Prod.fst = l
theorem OwnSgL.nil (w : World) (base : Nat) : OwnSgL w base (.slice none 0 0) [] := ⟨[], OwnSgs.nil _ _, rfl⟩
theorem OwnSgL.below {w w' : World} {base : Nat} {v : Value} {l : List TSeg} (h : OwnSgL w base v l) (hb : Below w.heap.size w w') : OwnSgL w' base v l := by
  obtain ⟨qs, h1, h2⟩ := h
  exact ⟨qs, h1.below hb, h2⟩
theorem OwnSgL.mono {w : World} {base base' : Nat} {v : Value} {l : List TSeg} (h : OwnSgL w base v l) (hb : base' ≤ base) : OwnSgL w base' v l := by
  obtain ⟨qs, h1, h2⟩ := h
  exact ⟨qs, h1.mono hb, h2⟩
theorem OwnSgL.frame {w w' : World} {base : Nat} {v : Value} {l : List TSeg} {F : Nat → Prop} (h : OwnSgL w base v l) (hf : Frame F w w') (hF : ∀ k, F k → k < base) : OwnSgL w' base v l := by
  obtain ⟨qs, h1, h2⟩ := h
  exact ⟨qs, h1.frame hf hF, h2⟩
end Go.Proofs.Ytahlcjkcdgahkaa
