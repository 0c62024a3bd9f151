/- What came in to TcpPlays, opened. -/
import Derived.Test.YtahlcjkcdgahkaaSegS
import Derived.Test.YtahlcjkcdgahkaaLeaves
import Derived.Test.YtahlcjkcdgahkaaTcpPlaysW
namespace Go.Proofs.Ytahlcjkcdgahkaa
section
open Go Go.RowKit Go.ChangeShapes Go.WideShapes

def tsegLeaves : List Leaf := [.int .i64, .int .i64, .int .u32, .int .u32, .int .i64, .int .i64, .int .i64, .bytes]
theorem int64_of {z : Int} (h : (Lit.int .i64 z).wf = true) : -9223372036854775808 ≤ z ∧ z ≤ 9223372036854775807 := by simp [Lit.wf, IntKind.min, IntKind.max, IntKind.bits, IntKind.signed] at h; omega
theorem u32_of {z : Int} (h : (Lit.int .u32 z).wf = true) : 0 ≤ z ∧ z < 4294967296 := by simp [Lit.wf, IntKind.min, IntKind.max, IntKind.bits, IntKind.signed] at h; omega
theorem tseg_of (w : World) (cs : List Value) (h : Leaves w tsegLeaves cs) : ∃ (s : TSeg) (v : Value), cs = s.cells v ∧ TSegOk s ∧ Bs w v s.data := by
  unfold tsegLeaves at h
  obtain ⟨c0, r0, rfl, h0, h⟩ := h.cons
  obtain ⟨c1, r1, rfl, h1, h⟩ := h.cons
  obtain ⟨c2, r2, rfl, h2, h⟩ := h.cons
  obtain ⟨c3, r3, rfl, h3, h⟩ := h.cons
  obtain ⟨c4, r4, rfl, h4, h⟩ := h.cons
  obtain ⟨c5, r5, rfl, h5, h⟩ := h.cons
  obtain ⟨c6, r6, rfl, h6, h⟩ := h.cons
  obtain ⟨c7, r7, rfl, h7, h⟩ := h.cons
  obtain rfl := h.nil
  obtain ⟨z0, rfl, w0⟩ := h0
  obtain ⟨z1, rfl, w1⟩ := h1
  obtain ⟨z2, rfl, w2⟩ := h2
  obtain ⟨z3, rfl, w3⟩ := h3
  obtain ⟨z4, rfl, w4⟩ := h4
  obtain ⟨z5, rfl, w5⟩ := h5
  obtain ⟨z6, rfl, w6⟩ := h6
  obtain ⟨b, hb⟩ := h7
  have w2 := u32_of w2
  have w3 := u32_of w3
  obtain ⟨n2, rfl⟩ : ∃ x : Nat, z2 = x := ⟨z2.toNat, by omega⟩
  obtain ⟨n3, rfl⟩ : ∃ x : Nat, z3 = x := ⟨z3.toNat, by omega⟩
  exact ⟨⟨z0, z1, n2, n3, z4, z5, z6, b⟩, c7, rfl, ⟨by show n2 < _; omega, by show n3 < _; omega, (int64_of w0).1, (int64_of w0).2, (int64_of w1).1, (int64_of w1).2, (int64_of w4).1, (int64_of w4).2, (int64_of w5).1, (int64_of w5).2, (int64_of w6).1, (int64_of w6).2⟩, hb⟩
end
section
open Go Go.RowKit Go.ChangeShapes Go.WideShapes

def tplayLeaves : List Leaf := [.int .i64, .int .i64, .bool, .int .i64, .int .i64, .int .u32, .int .u32, .int .i64, .int .i64, .int .i64, .bytes]
theorem tplay_of (w : World) (cs : List Value) (h : Leaves w tplayLeaves cs) : ∃ c : TCall, cs = c.cells ∧ TSegOk c.s ∧ Bs w c.v c.s.data ∧ -9223372036854775808 ≤ c.n := by
  unfold tplayLeaves at h
  obtain ⟨c0, r0, rfl, h0, h⟩ := h.cons
  obtain ⟨c1, r1, rfl, h1, h⟩ := h.cons
  obtain ⟨c2, r2, rfl, h2, h⟩ := h.cons
  obtain ⟨s, v, rfl, hs, hb⟩ := tseg_of w _ h
  obtain ⟨z0, rfl, w0⟩ := h0
  obtain ⟨z1, rfl, w1⟩ := h1
  obtain ⟨b, rfl⟩ := h2
  exact ⟨⟨z0, z1, b, s, v⟩, rfl, hs, hb, (int64_of w1).1⟩
theorem tcpPlays_all (s : TSeg) (v : Value) (first : Nat) (vL : Value) (L : List TCall) (w : World) (hb : Bs w v s.data) (hs : s.seq < 4294967296) (hf : first < 4294967296) (hq : RowN w 11 vL L.length (tcRow L)) (hx : ∀ s ∈ L, TSegOk s.s ∧ Bs w s.v s.s.data ∧ -9223372036854775808 ≤ s.n) :
    Calls Try.prog 8 #[.agg (s.cells v).toArray, .int .u32 (first : Int), vL] w fun e w' => e = .returned (.bool true) ∧ Below w.heap.size w w' := by
  obtain ⟨f0, t0, seq, ack, fl, wi, ms, data⟩ := s
  obtain ⟨A, cap, rfl⟩ := slice_len hb rfl
  exact tcpPlays_walk f0 t0 seq ack fl wi ms data A _ cap first vL L hs hf w hq hx
end
end Go.Proofs.Ytahlcjkcdgahkaa
