/- What a table of calls is in memory; New. -/
import Derived.Test.YtkgeccmpekclcaaDrcD
namespace Go.Proofs.Ytkgeccmpekclcaa
open Go Go.RowKit
attribute [local go_sem ↓] Go.wp_at_zero Go.wp_at_succ
set_option maxRecDepth 100000

/-- a call that is known -/
structure DCall where
  key : DKey
  done : Bool
  reply : List UInt8
/-- .. and where it lies: its block, its reply's slice -/
structure DIt where
  c : DCall
  g : Nat
  rv : Value
def DKey.val (k : DKey) : Value := .agg k.cells.toArray
def DIt.ptr (x : DIt) : Value := ptrV (some x.g)
structure TabAt (w : World) (base gT n m : Nat) (L : List DIt) (vr : Value) (gM : Nat) (f : Value → Option Nat) : Prop where
  tab : Blk w gT 62 [.int .i64 (n : Int), vr, .map (some gM)]
  tabB : base ≤ gT
  row : w.ownsRow base 63 1 vr (L.map DIt.ptr).length (L.map DIt.ptr)
  nodup : (L.map DIt.g).Nodup
  it : ∀ x ∈ L, Blk w x.g 65 (callCells x.c.key x.c.done x.rv) ∧ base ≤ x.g ∧ OwnBs w base 5 x.rv x.c.reply
  map : MapIs Try.prog 33 w gM m f
  mapB : base ≤ gM
  hit : ∀ x ∈ L, f x.c.key.val = some x.g
  miss : ∀ k : DKey, (∀ x ∈ L, x.c.key ≠ k) → f k.val = none
  keys : (L.map fun x => x.c.key).Nodup
  oks : ∀ x ∈ L, x.c.key.Ok
/-- the table in block gT knows the calls l, those that began first ahead; at most n; m stores into its map at most -/
def TabInv (w : World) (base gT n m : Nat) (l : List DCall) : Prop := ∃ L vr gM f, L.map DIt.c = l ∧ TabAt w base gT n m L vr gM f

/-- all blocks but those of a table's own types stay -/
structure Spares (w w' : World) : Prop where
  os : w'.os = w.os
  tape : w'.tape = w.tape
  output : w'.output = w.output
  size : w.heap.size ≤ w'.heap.size
  block : ∀ (k : Nat) (cs : Array Value) (t : TypeId) (mk : Nat × Nat), w.heap[k]? = some (.cells cs t mk) → t ≠ 62 → t ≠ 63 → t ≠ 65 → w'.heap[k]? = some (.cells cs t mk)

theorem TabAt.keep {w w' : World} {base gT n m : Nat} {L : List DIt} {vr : Value} {gM : Nat} {f : Value → Option Nat} (h : TabAt w base gT n m L vr gM f) (hb : Below w.heap.size w w') : TabAt w' base gT n m L vr gM f where
  tab := h.tab.keep hb
  tabB := h.tabB
  row := own_below h.row hb
  nodup := h.nodup
  it x hx := ⟨(h.it x hx).1.keep hb, (h.it x hx).2.1, (h.it x hx).2.2.below hb⟩
  map := h.map.keep hb
  mapB := h.mapB
  hit := h.hit
  miss := h.miss
  keys := h.keys
  oks := h.oks
theorem TabInv.keep {w w' : World} {base gT n m : Nat} {l : List DCall} (h : TabInv w base gT n m l) (hb : Below w.heap.size w w') : TabInv w' base gT n m l := by
  obtain ⟨L, vr, gM, f, e, h⟩ := h
  exact ⟨L, vr, gM, f, e, h.keep hb⟩
theorem Below.spares {w w' : World} (h : Below w.heap.size w w') : Spares w w' :=
  ⟨h.os, h.tape, h.output, h.size, fun k cs t mk hk _ _ _ => (h.block k (by have := (Array.getElem?_eq_some_iff.1 hk).1; exact this)).trans hk⟩
theorem Spares.trans {a b c : World} (h : Spares a b) (k : Spares b c) : Spares a c :=
  ⟨k.os.trans h.os, k.tape.trans h.tape, k.output.trans h.output, Nat.le_trans h.size k.size, fun i cs t mk hi h1 h2 h3 => k.block i cs t mk (h.block i cs t mk hi h1 h2 h3) h1 h2 h3⟩

def NewPost (n : Int) (w : World) (e : Ending) (w' : World) : Prop := Below w.heap.size w w' ∧
    ((n < 1 ∨ n > 256) ∧ e = .returned (.tuple #[.pointer none, .int .i64 1]) ∨
     ¬ (n < 1 ∨ n > 256) ∧ ∃ gT, e = .returned (.tuple #[ptrV (some gT), .int .i64 0]) ∧ TabInv w' w.heap.size gT n.toNat 0 [])
theorem new_any (n : Int) (w : World) : Calls Try.prog 7 #[.int .i64 n] w (NewPost n w) := by
  have hmm := @run_makeMap Try.prog
  by_cases h1 : n < 1
  · go_enter Try.func7, Try.ntmps7
    go_wp2_with fail
    go_ret2
    exact ⟨Below.refl _ _, .inl ⟨.inl h1, rfl⟩⟩
  by_cases h2 : n > 256
  · go_enter Try.func7, Try.ntmps7
    go_wp2_with fail
    go_ret2
    exact ⟨Below.refl _ _, .inl ⟨.inr h2, rfl⟩⟩
  obtain ⟨k, rfl⟩ : ∃ k : Nat, n = k := ⟨n.toNat, by omega⟩
  go_enter Try.func7, Try.ntmps7
  go_wp2_with fail
  go_ret2
  refine ⟨below_alloc' (below_alloc w _) _, .inr ⟨by omega, w.heap.size + 1, rfl, ?_⟩⟩
  refine ⟨[], .slice none 0 0, w.heap.size, fun _ => none, rfl, ?_⟩
  rw [Int.toNat_natCast]
  have hb := Blk.new (w.alloc (.map #[] 0)) 62 #[.int .i64 (k : Int), .slice none 0 0, .map (some w.heap.size)]
  rw [World.size_alloc] at hb
  exact ⟨hb, by omega, ⟨rfl, .inl ⟨rfl, rfl⟩⟩, List.nodup_nil, fun x hx => (by cases hx), (MapIs.made Try.prog 33 w).keep (below_alloc _ _), Nat.le_refl _, fun x hx => (by cases hx), fun _ _ => rfl, List.nodup_nil, fun x hx => (by cases hx)⟩
end Go.Proofs.Ytkgeccmpekclcaa
