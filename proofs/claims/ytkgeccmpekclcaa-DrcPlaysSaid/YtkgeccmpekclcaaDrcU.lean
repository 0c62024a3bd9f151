/- The document's table of calls in memory; New. -/
import Derived.Test.YtkgeccmpekclcaaDrcT
namespace Go.Proofs.Ytkgeccmpekclcaa
open Go Go.RowKit
attribute [local go_sem ↓] Go.wp_at_zero Go.wp_at_succ
set_option maxRecDepth 100000

/-- a call of the document's table, and where its reply lies -/
structure RIt where
  c : DCall
  rv : Value
def RIt.cells (x : RIt) : List Value := callCells x.c.key x.c.done x.rv
def rCells (L : List RIt) : List Value := L.flatMap RIt.cells
theorem RIt.len (x : RIt) : x.cells.length = 7 := rfl
theorem rCells_len (L : List RIt) : (rCells L).length = L.length * 7 := by
  induction L with
  | nil => rfl
  | cons x L ih => simp only [rCells, List.flatMap_cons, List.length_append, List.length_cons] at *; rw [ih, RIt.len]; omega
theorem rCells_append (L M : List RIt) : rCells (L ++ M) = rCells L ++ rCells M := by simp [rCells]
theorem rCells_at (L : List RIt) (i j : Nat) (hi : i < L.length) (hj : j < 7) : (rCells L)[i * 7 + j]? = L[i].cells[j]? := by
  induction L generalizing i with
  | nil => simp at hi
  | cons x L ih =>
    rw [show rCells (x :: L) = x.cells ++ rCells L from rfl]
    cases i with
    | zero => rw [List.getElem?_append_left (by rw [RIt.len]; omega)]; simp
    | succ i =>
      rw [List.getElem?_append_right (by rw [RIt.len]; omega), RIt.len, show (i + 1) * 7 + j - 7 = i * 7 + j by omega, ih i (by simpa using hi)]
      rfl
theorem rCells_take (L : List RIt) (i : Nat) : rCells (L.take i) = (rCells L).take (i * 7) := by
  induction L generalizing i with
  | nil => simp [rCells]
  | cons x L ih =>
    cases i with
    | zero => simp [rCells]
    | succ i =>
      rw [show rCells (x :: L) = x.cells ++ rCells L from rfl, List.take_succ_cons, show rCells (x :: L.take i) = x.cells ++ rCells (L.take i) from rfl, ih, List.take_append, RIt.len, show (i + 1) * 7 - 7 = i * 7 by omega, List.take_of_length_le (show x.cells.length ≤ (i + 1) * 7 by rw [RIt.len]; omega)]
theorem rCells_drop (L : List RIt) (i : Nat) : rCells (L.drop i) = (rCells L).drop (i * 7) := by
  have h := rCells_append (L.take i) (L.drop i)
  rw [List.take_append_drop] at h
  rw [h]
  by_cases hi : i ≤ L.length
  · rw [List.drop_left' (by rw [rCells_len]; simp; omega)]
  · rw [List.drop_of_length_le (show L.length ≤ i by omega), List.drop_of_length_le (by rw [← rCells_append, rCells_len]; simp; omega)]
    rfl
theorem rCells_set (L : List RIt) (i : Nat) (hi : i < L.length) (d : Bool) (v : Value) (r : List UInt8) :
    rCells (L.set i ⟨⟨L[i].c.key, d, r⟩, v⟩) = ((rCells L).set (i * 7 + 5) (.bool d)).set (i * 7 + 6) v := by
  induction L generalizing i with
  | nil => simp at hi
  | cons x L ih =>
    rw [show rCells (x :: L) = x.cells ++ rCells L from rfl]
    cases i with
    | zero => rfl
    | succ i =>
      have hi' : i < L.length := by simpa using hi
      rw [List.set_append_right _ _ (by rw [RIt.len]; omega), List.set_append_right _ _ (by rw [RIt.len]; omega), RIt.len, show (i + 1) * 7 + 5 - 7 = i * 7 + 5 by omega, show (i + 1) * 7 + 6 - 7 = i * 7 + 6 by omega, ← ih i hi']
      rfl

structure RefAt (w : World) (base gX n : Nat) (L : List RIt) (vL : Value) : Prop where
  tab : Blk w gX 48 [.int .i64 (n : Int), vL]
  tabB : base ≤ gX
  row : w.ownsRow base 50 7 vL L.length (rCells L)
  it : ∀ x ∈ L, OwnBs w base 5 x.rv x.c.reply
def RefInv (w : World) (base gX n : Nat) (l : List DCall) : Prop := ∃ L vL, L.map RIt.c = l ∧ RefAt w base gX n L vL
def RefOff (w : World) (base gX n : Nat) (l : List DCall) (gm : Nat) : Prop := ∃ L vL, L.map RIt.c = l ∧ RefAt w base gX n L vL ∧ ∀ x ∈ L, x.rv.ownBlock ≠ some gm
theorem RefAt.keep {w w' : World} {base gX n : Nat} {L : List RIt} {vL : Value} (h : RefAt w base gX n L vL) (hb : Below w.heap.size w w') : RefAt w' base gX n L vL :=
  ⟨h.tab.keep hb, h.tabB, own_below h.row hb, fun x hx => (h.it x hx).below hb⟩
theorem RefInv.keep {w w' : World} {base gX n : Nat} {l : List DCall} (h : RefInv w base gX n l) (hb : Below w.heap.size w w') : RefInv w' base gX n l := by
  obtain ⟨L, vL, e, h⟩ := h
  exact ⟨L, vL, e, h.keep hb⟩
theorem RefOff.inv {w : World} {base gX n gm : Nat} {l : List DCall} (h : RefOff w base gX n l gm) : RefInv w base gX n l := by
  obtain ⟨L, vL, e, h, _⟩ := h
  exact ⟨L, vL, e, h⟩
theorem RefOff.keep {w w' : World} {base gX n gm : Nat} {l : List DCall} (h : RefOff w base gX n l gm) (hb : Below w.heap.size w w') : RefOff w' base gX n l gm := by
  obtain ⟨L, vL, e, h, ho⟩ := h
  exact ⟨L, vL, e, h.keep hb, ho⟩
theorem RefInv.off {w w' : World} {base gX n gm : Nat} {l : List DCall} (h : RefInv w base gX n l) (hb : Below w.heap.size w w') (hg : w.heap.size ≤ gm) : RefOff w' base gX n l gm := by
  obtain ⟨L, vL, e, h⟩ := h
  refine ⟨L, vL, e, h.keep hb, fun x hx q => ?_⟩
  have := own_lt (h.it x hx) q
  omega
theorem RefOff.wrote {w w' : World} {base gX n gm : Nat} {l : List DCall} (h : RefOff w base gX n l gm) {xs : List Value} (hb : Blk w gm 5 xs) (hg : w.grownBy w' (some gm)) : RefOff w' base gX n l gm := by
  obtain ⟨L, vL, e, h, ho⟩ := h
  have hk := store_keepsT hg hb
  exact ⟨L, vL, e, ⟨hk.blk h.tab (by decide), h.tabB, own_store h.row hb (by decide) hg, fun x hx => World.ownsRow.kept (h.it x hx) hg (.inr (ho x hx))⟩, ho⟩

/-- all blocks but those of the document's table's own types stay -/
structure RSpares (w w' : World) : Prop where
  os : w'.os = w.os
  tape : w'.tape = w.tape
  output : w'.output = w.output
  size : w.heap.size ≤ w'.heap.size
  block : ∀ (k : Nat) (o : Obj), w.heap[k]? = some o → (∀ cs t mk, o = .cells cs t mk → t ≠ 48 ∧ t ≠ 50) → w'.heap[k]? = some o
theorem Below.rspares {w w' : World} (h : Below w.heap.size w w') : RSpares w w' :=
  ⟨h.os, h.tape, h.output, h.size, fun k o hk _ => (h.block k (by have := (Array.getElem?_eq_some_iff.1 hk).1; exact this)).trans hk⟩
theorem RSpares.trans {a b c : World} (h : RSpares a b) (k : RSpares b c) : RSpares a c :=
  ⟨k.os.trans h.os, k.tape.trans h.tape, k.output.trans h.output, Nat.le_trans h.size k.size, fun i o hi ho => k.block i o (h.block i o hi ho) ho⟩
theorem RSpares.keepsT {w w' : World} (h : RSpares w w') : KeepsT w w' (fun t => t ≠ 48 ∧ t ≠ 50) := fun k cs t mk hk ht =>
  h.block k _ hk fun cs' t' mk' e => by injection e with _ e; subst e; exact ht
theorem Spares.keepsT {w w' : World} (h : Spares w w') : KeepsT w w' (fun t => t ≠ 62 ∧ t ≠ 63 ∧ t ≠ 65) := fun k cs t mk hk ht => h.block k cs t mk hk ht.1 ht.2.1 ht.2.2
theorem RefAt.spares {w w' : World} {base gX n : Nat} {L : List RIt} {vL : Value} (h : RefAt w base gX n L vL) (hs : Spares w w') : RefAt w' base gX n L vL :=
  ⟨hs.keepsT.blk h.tab (by decide), h.tabB, hs.keepsT.row h.row (by decide), fun x hx => hs.keepsT.row (h.it x hx) (by decide)⟩
theorem RefInv.spares {w w' : World} {base gX n : Nat} {l : List DCall} (h : RefInv w base gX n l) (hs : Spares w w') : RefInv w' base gX n l := by
  obtain ⟨L, vL, e, h⟩ := h
  exact ⟨L, vL, e, h.spares hs⟩
theorem RefOff.spares {w w' : World} {base gX n gm : Nat} {l : List DCall} (h : RefOff w base gX n l gm) (hs : Spares w w') : RefOff w' base gX n l gm := by
  obtain ⟨L, vL, e, h, ho⟩ := h
  exact ⟨L, vL, e, h.spares hs, ho⟩
theorem TabAt.rspares {w w' : World} {base gT n m : Nat} {L : List DIt} {vr : Value} {gM : Nat} {f : Value → Option Nat} (h : TabAt w base gT n m L vr gM f) (hs : RSpares w w') : TabAt w' base gT n m L vr gM f := by
  refine ⟨hs.keepsT.blk h.tab (by decide), h.tabB, hs.keepsT.row h.row (by decide), h.nodup, fun x hx => ⟨hs.keepsT.blk (h.it x hx).1 (by decide), (h.it x hx).2.1, hs.keepsT.row (h.it x hx).2.2 (by decide)⟩, ?_, h.mapB, h.hit, h.miss, h.keys, h.oks⟩
  obtain ⟨es, clock, hm⟩ := h.map.isMap
  exact h.map.block ((hs.block gM _ hm (fun _ _ _ e => by cases e)).trans hm.symm)
theorem TabInv.rspares {w w' : World} {base gT n m : Nat} {l : List DCall} (h : TabInv w base gT n m l) (hs : RSpares w w') : TabInv w' base gT n m l := by
  obtain ⟨L, vr, gM, f, e, h⟩ := h
  exact ⟨L, vr, gM, f, e, h.rspares hs⟩
theorem TabOff.rspares {w w' : World} {base gT n m gm : Nat} {l : List DCall} (h : TabOff w base gT n m l gm) (hs : RSpares w w') : TabOff w' base gT n m l gm := by
  obtain ⟨L, vr, gM, f, e, h, ho⟩ := h
  exact ⟨L, vr, gM, f, e, h.rspares hs, ho⟩

def RNewPost (n : Int) (w : World) (e : Ending) (w' : World) : Prop := Below w.heap.size w w' ∧
    ((n < 1 ∨ n > 256) ∧ e = .returned (.tuple #[.pointer none, .int .i64 1]) ∨
     ¬ (n < 1 ∨ n > 256) ∧ ∃ gX, e = .returned (.tuple #[ptrV (some gX), .int .i64 0]) ∧ RefInv w' w.heap.size gX n.toNat [])
theorem rnew_any (n : Int) (w : World) : Calls Try.prog 8 #[.int .i64 n] w (RNewPost n w) := by
  by_cases h1 : n < 1
  · go_enter Try.func8, Try.ntmps8
    go_wp2_with fail
    go_ret2
    exact ⟨Below.refl _ _, .inl ⟨.inl h1, rfl⟩⟩
  by_cases h2 : n > 256
  · go_enter Try.func8, Try.ntmps8
    go_wp2_with fail
    go_ret2
    exact ⟨Below.refl _ _, .inl ⟨.inr h2, rfl⟩⟩
  obtain ⟨k, rfl⟩ : ∃ k : Nat, n = k := ⟨n.toNat, by omega⟩
  go_enter Try.func8, Try.ntmps8
  go_wp2_with fail
  go_ret2
  refine ⟨below_alloc w _, .inr ⟨by omega, w.heap.size, rfl, [], .slice none 0 0, rfl, ?_⟩⟩
  rw [Int.toNat_natCast]
  exact ⟨Blk.new w 48 #[.int .i64 (k : Int), .slice none 0 0], Nat.le_refl _, World.ownsRow_nil _ _ _ _, fun x hx => (by cases hx)⟩
end Go.Proofs.Ytkgeccmpekclcaa
