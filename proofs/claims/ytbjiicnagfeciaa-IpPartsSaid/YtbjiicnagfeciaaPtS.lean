/- What chapter 13 says of packets that wait for parts, in plain words. -/
import Derived.Test.YtbjiicnagfeciaaIpSpec
namespace Go.Proofs.Ytbjiicnagfeciaa
open Go Go.RowKit

/-- what tells packets apart -/
structure PKey where
  src : Nat
  dst : Nat
  proto : Int
  id : Int
deriving DecidableEq
structure PKey.Ok (k : PKey) : Prop where
  src : k.src < 4294967296
  dst : k.dst < 4294967296
  plo : -9223372036854775808 ≤ k.proto
  phi : k.proto ≤ 9223372036854775807
  ilo : -9223372036854775808 ≤ k.id
  ihi : k.id ≤ 9223372036854775807
def PKey.cells (k : PKey) : List Value := [.int .u32 (k.src : Int), .int .u32 (k.dst : Int), .int .i64 k.proto, .int .i64 k.id]
def PKey.val (k : PKey) : Value := .agg k.cells.toArray
def Pk.key (p : Pk) : PKey := ⟨p.src, p.dst, p.proto, p.id⟩

/-- what came of a packet -/
structure Wt where
  k : PKey
  parts : List Pk
  fin : Int
  age : Int

def pWrong (p : Pk) : Bool :=
  p.more && (decide (p.body.length = 0) || decide (p.body.length % 8 ≠ 0)) || decide (p.off < 0) || decide (p.off % 8 ≠ 0) || decide (65515 < p.body.length) || decide (65515 - (p.body.length : Int) < p.off)
def Pk.to (p : Pk) : Int := p.off + p.body.length
def pSame (x p : Pk) : Bool := decide (x.off = p.off) && decide (x.more = p.more) && decide (x.body = p.body)
def pClash (x p : Pk) : Bool := decide (x.off < p.to) && decide (p.off < x.to) || !p.more && decide (p.to < x.to)
/-- 0: fresh, 1: again, 2: bad -/
def pBeside (ps : List Pk) (fin : Int) (p : Pk) : Int :=
  if ps.any (pSame · p) then 1 else if ps.any (pClash · p) || (decide (0 ≤ fin) && (decide (fin < p.to) || !p.more)) then 2 else 0
def blit (b : List UInt8) (off : Int) (bs : List UInt8) : List UInt8 := b.take off.toNat ++ bs ++ b.drop (off.toNat + bs.length)
def pBody (n : Nat) (ps : List Pk) : List UInt8 := ps.foldl (fun b x => blit b x.off x.body) (List.replicate n 0)
def pSum (ps : List Pk) : Nat := (ps.map fun x => x.body.length).sum
def pTtl (ps : List Pk) : Int := ps.foldl (fun t x => if x.off = 0 then x.ttl else t) 0
def pkZero : Pk := ⟨0, 0, 0, 0, 0, false, false, 0, []⟩
def pWhole (k : PKey) (ps : List Pk) (fin : Int) : Pk × Bool :=
  if fin < 0 then (pkZero, false) else (⟨k.src, k.dst, k.proto, k.id, 0, false, true, pTtl ps, pBody fin.toNat ps⟩, decide ((pSum ps : Int) = fin))
def pLose (l : List Wt) (k : PKey) : List Wt := l.filter fun x => !decide (x.k = k)
/-- the one of key k, and the row in which it stands (at its end, if it is new) -/
def pFind (l : List Wt) (k : PKey) : List Wt × Wt := match l.find? fun x => decide (x.k = k) with
  | some w => (l, w)
  | none => ((if l.length = 4 then l.drop 1 else l) ++ [⟨k, [], -1, 0⟩], ⟨k, [], -1, 0⟩)
def pSet (l : List Wt) (x : Wt) : List Wt := l.map fun y => if y.k = x.k then x else y
def pMore (w : Wt) (p : Pk) : Wt := { w with parts := w.parts ++ [p], fin := if p.more then w.fin else p.to }
def pAdd (l : List Wt) (p : Pk) : List Wt × Pk × Int :=
  if p.off = 0 ∧ p.more = false then (l, { p with whole := true }, 0)
  else if pWrong p then (l, pkZero, 14)
  else
    let r := pFind l p.key
    if pBeside r.2.parts r.2.fin p = 1 then (r.1, pkZero, 19)
    else if pBeside r.2.parts r.2.fin p = 2 then (pLose r.1 p.key, pkZero, 15)
    else
      let w := pMore r.2 p
      let a := pWhole w.k w.parts w.fin
      if a.2 then (pLose (pSet r.1 w) p.key, a.1, 0) else (pSet r.1 w, pkZero, 19)
def pTick (l : List Wt) (n : Int) : List Wt × Int :=
  if n < 1 then (l, 0)
  else (l.filterMap fun x => if x.age + min n 3000 < 3000 then some { x with age := x.age + min n 3000 } else none, ((l.filter fun x => decide (3000 ≤ x.age + min n 3000)).length : Int))

/-- what holds of one that waits, always -/
structure Wt.Ok (x : Wt) : Prop where
  key : x.k.Ok
  off : ∀ p ∈ x.parts, 0 ≤ p.off ∧ p.to ≤ 65515
  fin : -1 ≤ x.fin ∧ x.fin ≤ 65515
  le : 0 ≤ x.fin → ∀ p ∈ x.parts, p.to ≤ x.fin
  age : 0 ≤ x.age ∧ x.age ≤ 4000000000000000000
theorem pWrong_no {p : Pk} (h : pWrong p = false) : 0 ≤ p.off ∧ p.to ≤ 65515 := by
  simp [pWrong] at h
  unfold Pk.to
  omega
theorem wt_new (k : PKey) (h : k.Ok) : (⟨k, [], -1, 0⟩ : Wt).Ok := ⟨h, fun p hp => (by cases hp), ⟨Int.le_refl _, by simp⟩, fun _ p hp => (by cases hp), ⟨Int.le_refl _, by simp⟩⟩
theorem pMore_ok {x : Wt} {p : Pk} (h : x.Ok) (hw : pWrong p = false) (hb : pBeside x.parts x.fin p ≠ 1) (hb2 : pBeside x.parts x.fin p ≠ 2) : (pMore x p).Ok := by
  have hp := pWrong_no hw
  have h1 : x.parts.any (pSame · p) = false := by
    cases hq : x.parts.any (pSame · p) with
    | false => rfl
    | true => exact absurd (by unfold pBeside; rw [if_pos hq]) hb
  have h2 : (x.parts.any (pClash · p) || (decide (0 ≤ x.fin) && (decide (x.fin < p.to) || !p.more))) = false := by
    cases hq : (x.parts.any (pClash · p) || (decide (0 ≤ x.fin) && (decide (x.fin < p.to) || !p.more))) with
    | false => rfl
    | true => exact absurd (by unfold pBeside; rw [if_neg (by simp [h1]), if_pos hq]) hb2
  simp only [Bool.or_eq_false_iff, Bool.and_eq_false_iff, decide_eq_false_iff_not, Bool.not_eq_false'] at h2
  obtain ⟨c1, c2⟩ := h2
  have c1' : ∀ y ∈ x.parts, pClash y p = false := fun y hy => by
    simp only [List.any_eq_false] at c1
    simpa using c1 y hy
  refine ⟨h.key, fun y hy => ?_, ?_, fun hf y hy => ?_, h.age⟩
  · rcases List.mem_append.1 hy with hy | hy
    · exact h.off y hy
    · simp at hy; subst hy; exact hp
  · unfold pMore
    simp only
    split
    · exact h.fin
    · have : (0 : Int) ≤ p.body.length := by omega
      unfold Pk.to at hp ⊢
      omega
  · unfold pMore at hf ⊢ hy
    simp only at hf hy ⊢
    rcases List.mem_append.1 hy with hy | hy
    · split at hf
      · rename_i hm
        rw [if_pos hm]
        exact h.le hf y hy
      · rename_i hm
        rw [if_neg hm]
        have := c1' y hy
        simp [pClash, hm] at this
        omega
    · simp at hy
      subst hy
      split at hf
      · rename_i hm
        rw [if_pos hm]
        rcases c2 with c2 | c2
        · exact absurd hf c2
        · omega
      · rename_i hm
        rw [if_neg hm]
        exact Int.le_refl _
/-- what holds of all that wait, always -/
structure PtsOk (l : List Wt) : Prop where
  it : ∀ x ∈ l, x.Ok
  keys : (l.map (·.k)).Nodup
  len : l.length ≤ 4
end Go.Proofs.Ytbjiicnagfeciaa
