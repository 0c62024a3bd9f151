/- What chapter 13 says of packets, in plain words; what a slice of packets reads as. -/
import Derived.Test.YtbjiicnagfeciaaNumSpec
import Derived.Test.YtbjiicnagfeciaaStruct
namespace Go.Proofs.Ytbjiicnagfeciaa
open Go Go.RowKit

structure Pk where
  src : Nat
  dst : Nat
  proto : Int
  id : Int
  off : Int
  more : Bool
  whole : Bool
  ttl : Int
  body : List UInt8
def pkCells (p : Pk) (v : Value) : List Value :=
  [.int .u32 (p.src : Int), .int .u32 (p.dst : Int), .int .i64 p.proto, .int .i64 p.id, .int .i64 p.off, .bool p.more, .bool p.whole, .int .i64 p.ttl, v]
theorem pkCells_len (p : Pk) (v : Value) : (pkCells p v).length = 9 := rfl
/-- packets in order, each with the value of its body -/
def pkRow (qs : List (Pk × Value)) : List Value := qs.flatMap fun q => pkCells q.1 q.2
theorem pkRow_len (qs : List (Pk × Value)) : (pkRow qs).length = qs.length * 9 := by
  induction qs with
  | nil => rfl
  | cons q qs ih => simp only [pkRow, List.flatMap_cons, List.length_append] at ih ⊢; rw [ih, pkCells_len, List.length_cons]; omega
theorem pkRow_snoc (qs : List (Pk × Value)) (p : Pk) (v : Value) : pkRow (qs ++ [(p, v)]) = pkRow qs ++ pkCells p v := by simp [pkRow]
/-- the cells of the packet number i -/
theorem pkRow_at (qs : List (Pk × Value)) (i j : Nat) (hi : i < qs.length) (hj : j < 9) : (pkRow qs)[9 * i + j]? = (pkCells qs[i].1 qs[i].2)[j]? := by
  induction qs generalizing i with
  | nil => simp at hi
  | cons q qs ih =>
    simp only [pkRow, List.flatMap_cons]
    cases i with
    | zero => rw [List.getElem?_append_left (by rw [pkCells_len]; omega)]; simp
    | succ i =>
      rw [List.getElem?_append_right (by rw [pkCells_len]; omega), pkCells_len, show 9 * (i + 1) + j - 9 = 9 * i + j by omega]
      exact ih i (by simpa using hi)
def Bodies (w : World) (base : Nat) (U : TypeId) (qs : List (Pk × Value)) : Prop := ∀ q ∈ qs, OwnBs w base U q.2 q.1.body
/-- a slice of packets, owned, with their bodies -/
def OwnPks (w : World) (base : Nat) (E U : TypeId) (v : Value) (qs : List (Pk × Value)) : Prop := Bodies w base U qs ∧ w.ownsRow base E 9 v qs.length (pkRow qs)
theorem Bodies.below {w w' : World} {base : Nat} {U : TypeId} {qs : List (Pk × Value)} (h : Bodies w base U qs) (hb : Below w.heap.size w w') : Bodies w' base U qs := fun q hq => (h q hq).below hb
theorem OwnPks.below {w w' : World} {base : Nat} {E U : TypeId} {v : Value} {qs : List (Pk × Value)} (h : OwnPks w base E U v qs) (hb : Below w.heap.size w w') : OwnPks w' base E U v qs :=
  ⟨h.1.below hb, own_below h.2 hb⟩
theorem OwnPks.mono {w : World} {base base' : Nat} {E U : TypeId} {v : Value} {qs : List (Pk × Value)} (h : OwnPks w base E U v qs) (hb : base' ≤ base) : OwnPks w base' E U v qs := ⟨fun q hq => (h.1 q hq).mono hb, own_mono h.2 hb⟩

/-- a slice of just these packets, owned -/
def OwnPkL (w : World) (base : Nat) (E U : TypeId) (v : Value) (l : List Pk) : Prop := ∃ qs, OwnPks w base E U v qs ∧ qs.map Prod.fst = l
theorem OwnPkL.nil (w : World) (base : Nat) (E U : TypeId) : OwnPkL w base E U (.slice none 0 0) [] := ⟨[], ⟨fun _ h => (by cases h), World.ownsRow_nil _ _ _ _⟩, rfl⟩
theorem OwnPkL.below {w w' : World} {base : Nat} {E U : TypeId} {v : Value} {l : List Pk} (h : OwnPkL w base E U v l) (hb : Below w.heap.size w w') : OwnPkL w' base E U v l := by
  obtain ⟨qs, h1, h2⟩ := h
  exact ⟨qs, h1.below hb, h2⟩

/-- one part: its place, its bytes -/
def partOf (p : Pk) (size at_ k : Nat) : Pk :=
  { p with off := ((at_ * size : Nat) : Int), body := (p.body.drop (k * size)).take size, more := decide (at_ * size + min size (p.body.length - k * size) < p.body.length), whole := false }
def partsOf (p : Pk) (size : Nat) (l : List Nat) : List Pk := l.mapIdx fun i k => partOf p size i k
theorem partsOf_snoc (p : Pk) (size : Nat) (l : List Nat) (x : Nat) : partsOf p size (l ++ [x]) = partsOf p size l ++ [partOf p size l.length x] := by simp [partsOf]
theorem partsOf_len (p : Pk) (size : Nat) (l : List Nat) : (partsOf p size l).length = l.length := by simp [partsOf]
def ipSize (mtu : Int) : Nat := ((mtu - 20) / 8 * 8).toNat
def ipCut (p : Pk) (mtu : Int) : List Pk × Int :=
  if mtu < 28 then ([], 1)
  else if p.more = true ∨ p.off ≠ 0 then ([], 15)
  else if p.body.length > 65515 then ([], 5)
  else if (p.body.length : Int) ≤ mtu - 20 then ([{ p with whole := true }], 0)
  else (partsOf p (ipSize mtu) (List.range ((p.body.length + ipSize mtu - 1) / ipSize mtu)), 0)
end Go.Proofs.Ytbjiicnagfeciaa
