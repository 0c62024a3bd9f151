/- A row of calls. -/
import Derived.Test.YtahlcjkcdgahkaaTcpX
import Derived.Deep.MidRow
namespace Go.Proofs.Ytahlcjkcdgahkaa
open Go Go.RowKit

structure TCall where
  kind : Int
  n : Int
  near : Bool
  s : TSeg
  v : Value
def TCall.cells (c : TCall) : List Value := .int .i64 c.kind :: .int .i64 c.n :: .bool c.near :: c.s.cells c.v
theorem TCall.clen (c : TCall) : c.cells.length = 11 := rfl
def tcRow (L : List TCall) : List Value := L.flatMap TCall.cells
theorem tcRow_at (L : List TCall) (i j : Nat) (hi : i < L.length) (hj : j < 11) : (tcRow L)[i * 11 + j]? = L[i].cells[j]? := by
  induction L generalizing i with
  | nil => simp at hi
  | cons x L ih =>
    rw [show tcRow (x :: L) = x.cells ++ tcRow L from rfl]
    cases i with
    | zero => rw [List.getElem?_append_left (by rw [TCall.clen]; omega)]; simp
    | succ i =>
      rw [List.getElem?_append_right (by rw [TCall.clen]; omega), TCall.clen, show (i + 1) * 11 + j - 11 = i * 11 + j by omega, ih i (by simpa using hi)]
      rfl
/-- what a segment's numbers may be -/
structure TSegOk (s : TSeg) : Prop where
  seq : s.seq < 4294967296
  ack : s.ack < 4294967296
  src0 : -9223372036854775808 ≤ s.src
  src1 : s.src ≤ 9223372036854775807
  dst0 : -9223372036854775808 ≤ s.dst
  dst1 : s.dst ≤ 9223372036854775807
  fl0 : -9223372036854775808 ≤ s.flags
  fl1 : s.flags ≤ 9223372036854775807
  wi0 : -9223372036854775808 ≤ s.window
  wi1 : s.window ≤ 9223372036854775807
  ms0 : -9223372036854775808 ≤ s.mss
  ms1 : s.mss ≤ 9223372036854775807
/-- the row of calls in memory: one of them -/
theorem call_cells {w : World} {A : Option Addr} {n cap : Nat} {L : List TCall} (h : RowN w 11 (.slice A n cap) L.length (tcRow L)) (i : Nat) (hi : i < L.length) :
    ∃ b o, A = some ⟨b, o, none⟩ ∧ ∀ j v, j < 11 → L[i].cells[j]? = some v → w.cell? ⟨b, o + (i * 11 + j), none⟩ = some v := by
  obtain ⟨hl, A1, c1, hv, _, _, hc⟩ := h
  injection hv with e1 e2 e3
  rcases hc with hc | ⟨b, o, hA, hc⟩
  · rw [hc] at hi; cases hi
  · refine ⟨b, o, e1.trans hA, fun j v hj hv => ?_⟩
    rw [← tcRow_at L i j hi hj] at hv
    exact hc _ _ hv
theorem call_len {w : World} {A : Option Addr} {n cap : Nat} {L : List TCall} (h : RowN w 11 (.slice A n cap) L.length (tcRow L)) : n = L.length := by
  obtain ⟨hl, A1, c1, hv, _⟩ := h
  injection hv
theorem u32_rem (t : TypeId) (a b : Nat) (hb : b ≠ 0) (P : Program) (w : World) : (binOp .rem t (.int .u32 (a : Int)) (.int .u32 (b : Int))).run P w = .ok (.int .u32 ((a % b : Nat) : Int)) w := by
  have h1 : ¬ ((b : Int) = 0) := by omega
  have h2 : (a : Int).tmod (b : Int) = ((a % b : Nat) : Int) := by rw [Int.tmod_eq_emod_of_nonneg (by omega)]; exact (Int.natCast_emod a b).symm
  unfold binOp
  simp only [ne_eq, not_true_eq_false, if_false]
  unfold Op.intDiv
  rw [if_neg h1]
  simp only [h2]
  rfl
theorem wpList_rem32 {P : Program} {w : World} {ops : Array Oper} {rest : List Oper} {o : Oper} {a : Act} {Q : Exit → Act → World → Prop} (hgd : o.guard = none) (T R : TypeId) (x y : Operand) (ho : o.op = .binOp .rem T x y R)
    (m n : Nat) (hx : a.eval x = .int .u32 (m : Int)) (hy : a.eval y = .int .u32 (n : Int)) (hn : n ≠ 0)
    (h : wpList P ops Q rest (a.put o.dst (.int .u32 ((m % n : Nat) : Int))) w) : wpList P ops Q (o :: rest) a w := by
  refine wpList_plain hgd fun K hK => ?_
  unfold Oper.wp execOp
  simp only [ho, hx, hy]
  simp [eqGuard, u32_rem T m n hn]
  exact hK _ _ h
end Go.Proofs.Ytahlcjkcdgahkaa
