/- Numbers of a stream; a connection as plain data and in memory. -/
import Derived.Test.YtahlcjkcdgahkaaRowAt
import Derived.Test.YtahlcjkcdgahkaaNumH
import Derived.Test.YtahlcjkcdgahkaaKept
import Derived.Test.YtahlcjkcdgahkaaRegion2
import Derived.Test.YtahlcjkcdgahkaaMapU
import Derived.Deep.RegionHeld3
import Derived.Deep.DrawnRows
import Derived.Deep.Cut
import Derived.Deep.CutRange
namespace Go.Proofs.Ytahlcjkcdgahkaa
section
open Go Go.RowKit

/-- w' is w with new blocks; of the old ones F's alone may have been written -/
structure Frame (F : Nat → Prop) (w w' : World) : Prop where
  os : w'.os = w.os
  tape : w'.tape = w.tape
  output : w'.output = w.output
  size : w.heap.size ≤ w'.heap.size
  block : ∀ k, k < w.heap.size → ¬ F k → w'.heap[k]? = w.heap[k]?
theorem Frame.refl (F : Nat → Prop) (w : World) : Frame F w w := ⟨rfl, rfl, rfl, Nat.le_refl _, fun _ _ _ => rfl⟩
theorem Frame.trans {F F' : Nat → Prop} {a b c : World} (h : Frame F a b) (k : Frame F' b c) (hF : ∀ i, i < a.heap.size → F' i → F i) : Frame F a c :=
  ⟨k.os.trans h.os, k.tape.trans h.tape, k.output.trans h.output, Nat.le_trans h.size k.size, fun i hi hn => (k.block i (Nat.lt_of_lt_of_le hi h.size) (fun hf => hn (hF i hi hf))).trans (h.block i hi hn)⟩
theorem Below.frameF {w w' : World} (h : Below w.heap.size w w') (F : Nat → Prop) : Frame F w w' := ⟨h.os, h.tape, h.output, h.size, fun i hi _ => h.block i hi⟩
theorem frame_grown {F : Nat → Prop} {w w' : World} {row : Option Nat} (h : w.grownBy w' row) (hF : ∀ g, row = some g → F g) : Frame F w w' :=
  ⟨h.os, h.tape, h.output, h.size, fun i hi hn => h.block i hi (fun e => hn (hF i e.symm))⟩
theorem Frame.below {F : Nat → Prop} {w w' : World} {base : Nat} (h : Frame F w w') (hF : ∀ k, F k → base ≤ k) (hb : base ≤ w.heap.size) : Below base w w' :=
  ⟨h.os, h.tape, h.output, h.size, fun i hi => h.block i (Nat.lt_of_lt_of_le hi hb) (fun hf => by have := hF i hf; omega)⟩
theorem Frame.blk {F : Nat → Prop} {w w' : World} {g : Nat} {t : TypeId} {xs : List Value} (h : Frame F w w') (hb : Blk w g t xs) (hn : ¬ F g) : Blk w' g t xs := (h.block g hb.lt hn).trans hb
theorem Frame.weaken {F F' : Nat → Prop} {w w' : World} (h : Frame F w w') (hF : ∀ i, i < w.heap.size → F i → F' i) : Frame F' w w' :=
  ⟨h.os, h.tape, h.output, h.size, fun i hi hn => h.block i hi (fun hf => hn (hF i hi hf))⟩
theorem Frame.own {F : Nat → Prop} {w w' : World} {base size n : Nat} {e : TypeId} {v : Value} {xs : List Value} (h : Frame F w w') (ho : w.ownsRow base e size v n xs) (hn : ∀ g, v.ownBlock = some g → ¬ F g) : w'.ownsRow base e size v n xs := by
  refine ⟨ho.1, ?_⟩
  rcases ho.2 with h0 | ⟨g, cap, cur, rfl, h1, h2, h3⟩
  · exact .inl h0
  · exact .inr ⟨g, cap, cur, rfl, h1, (h.block g (Array.getElem?_eq_some_iff.1 h2).1 (hn g rfl)).trans h2, h3⟩
theorem RowAtS.same {w w' : World} {base size n : Nat} {e : TypeId} {v : Value} {xs : List Value} (h : RowAtS w base e size v n xs) (hs : ∀ g, v.ownBlock = some g → w'.heap[g]? = w.heap[g]?) : RowAtS w' base e size v n xs := by
  refine ⟨h.1, ?_⟩
  rcases h.2 with h0 | ⟨g, off, cap, cur, rfl, h1, h2, h3⟩
  · exact .inl h0
  · exact .inr ⟨g, off, cap, cur, rfl, h1, (hs g rfl).trans h2, h3⟩
end
section
open Go Go.RowKit
attribute [local go_sem ↓] Go.wp_at_zero Go.wp_at_succ
set_option maxRecDepth 100000

/-- does a lie ahead of b? -/
def tLess (a b : Nat) : Bool := decide ((b + 8589934591 - a) % 4294967296 < 2147483647)
theorem less_any (a b : Nat) (ha : a < 4294967296) (hb : b < 4294967296) (w : World) : Calls Try.prog 20 #[.int .u32 (a : Int), .int .u32 (b : Int)] w fun e w' => e = .returned (.bool (tLess a b)) ∧ w' = w := by
  have h2 : ((b : Int) - (a : Int) - 1) % 4294967296 = ((b + 8589934591 - a) % 4294967296 : Nat) := by omega
  have H2 := hid h2
  clear h2 ha hb
  go_enter Try.func20, Try.ntmps20
  go_wp2_with fail
  go_ret
  unfold tLess
  have h2 := H2.out
  refine ⟨ret_bool ?_, rfl⟩
  by_cases h : (b + 8589934591 - a) % 4294967296 < 2147483647
  · simp [h]
    omega
  · simp [h]
    omega
/-- of two numbers that are not half the ring apart just one lies ahead -/
theorem tLess_spec (a b : Nat) (ha : a < 4294967296) (hb : b < 4294967296) :
    ((b + 4294967296 - a) % 4294967296 = 2147483648 → tLess a b = false ∧ tLess b a = false) ∧
    ((b + 4294967296 - a) % 4294967296 ≠ 2147483648 → ((a = b) ↔ (tLess a b = false ∧ tLess b a = false)) ∧ ¬ (tLess a b = true ∧ tLess b a = true)) := by
  unfold tLess
  simp only [decide_eq_false_iff_not, decide_eq_true_eq]
  omega
theorem tLess_step (a b d : Nat) (ha : a < 4294967296) (hb : b < 4294967296) : tLess ((a + d) % 4294967296) ((b + d) % 4294967296) = tLess a b := by
  unfold tLess
  congr 1
  simp only [eq_iff_iff]
  omega
theorem tLess_next (a : Nat) : tLess a ((a + 1) % 4294967296) = true := by
  unfold tLess
  simp only [decide_eq_true_eq]
  omega

/-- a segment -/
structure TSeg where
  src : Int
  dst : Int
  seq : Nat
  ack : Nat
  flags : Int
  window : Int
  mss : Int
  data : List UInt8
def TSeg.cells (s : TSeg) (v : Value) : List Value := [.int .i64 s.src, .int .i64 s.dst, .int .u32 (s.seq : Int), .int .u32 (s.ack : Int), .int .i64 s.flags, .int .i64 s.window, .int .i64 s.mss, v]
def TSeg.val (s : TSeg) (v : Value) : Value := .agg (s.cells v).toArray
/-- what comes in: the next number; what came in order, what came early; where the stream ends -/
structure TIn where
  r : Nat
  ready : List UInt8
  early : Nat → Option UInt8
  fin : Nat
  told : Bool
  done : Bool
/-- what goes out -/
structure TOut where
  u : Nat
  n : Nat
  base : Nat
  bytes : List UInt8
  w : Int
  m : Int
  clock : Int
  tries : Int
  ended : Bool
  fin : Bool
/-- a connection -/
structure TConn where
  inn : TIn
  out : TOut
  src : Int
  dst : Int
  state : Int
  begin_ : Bool
  acks : Bool
  again : Bool
  gave : Bool
  off : Bool
def TIn.cells (i : TIn) (vr vm : Value) : List Value := [.int .u32 (i.r : Int), vr, vm, .int .u32 (i.fin : Int), .bool i.told, .bool i.done]
def TOut.cells (o : TOut) (vb : Value) : List Value := [.int .u32 (o.u : Int), .int .u32 (o.n : Int), .int .u32 (o.base : Int), vb, .int .i64 o.w, .int .i64 o.m, .int .i64 o.clock, .int .i64 o.tries, .bool o.ended, .bool o.fin]
def TConn.cells (c : TConn) (vr vm vb : Value) : List Value := c.inn.cells vr vm ++ c.out.cells vb ++ [.int .i64 c.src, .int .i64 c.dst, .int .i64 c.state, .bool c.begin_, .bool c.acks, .bool c.again, .bool c.gave, .bool c.off]

/-- bytes of a segment are noted: those that are awaited (window q) -/
def earlyPut (early : Nat → Option UInt8) (r q seq : Nat) : List UInt8 → Nat → (Nat → Option UInt8)
  | [], _ => early
  | b :: bs, i => earlyPut (fun k => if k = (seq + i) % 4294967296 ∧ early k = none ∧ ((seq + i) % 4294967296 + 4294967296 - r) % 4294967296 < q then some b else early k) r q seq bs (i + 1)
end
end Go.Proofs.Ytahlcjkcdgahkaa
