/- What came in to EtherPeers, opened. -/
import Derived.Test.YtefpfjdfkecjkaaEtherPeersW
namespace Go.Proofs.Ytefpfjdfkecjkaa
open Go Go.RowKit Go.ChangeShapes Go.WideShapes Go.Deep

theorem okWide_arr {P : Program} {w : World} {r : Reach} {base : Nat} {t e : TypeId} {n : Nat} {v : Value} (ht : P.underlying t = some (.array n e)) (h : Value.okWide P w r base t v) : ∃ cs, v = .agg cs ∧ cs.size = P.cellsOf t := by
  simp only [Value.okWide, ht] at h
  obtain ⟨cs, h1, h2, _⟩ := h
  exact ⟨cs, h1, h2⟩
theorem rd_arr {H : Type} {enc : TypeId × Value → H} {P : Program} {w : World} {base : Nat} {spare : Nat → Bool} {held : Bool} {r : Reach} {b0 : Nat} (n : Nat) {t e : TypeId} {k : Nat} {ls : List Leaf} {v : Value} {d : DataW H} {p : List MemPlace} (hs : P.underlying t = some (.array k e)) (hls : leaves P n t = some ls)
    (hv : Value.okWide P w r b0 t v) (h : DataW.Trod enc P w base spare held t v d p) : ∃ cs : List Value, v = .agg cs.toArray ∧ Leaves w ls cs := by
  obtain ⟨cs, rfl, hsz⟩ := okWide_arr hs hv
  obtain ⟨fuel, hf⟩ := h
  exact ⟨cs.toList, by simp, trod_leaves n t ls hls fuel _ ⟨_, hf⟩⟩
def macLeaves : List Leaf := [.int .u8, .int .u8, .int .u8, .int .u8, .int .u8, .int .u8]
theorem macv_of (w : World) (cs : List Value) (h : Leaves w macLeaves cs) : ∃ m : Mac, cs = m.cells := by
  unfold macLeaves at h
  obtain ⟨m, r, rfl, h2⟩ := mac_of h
  obtain rfl := h2.nil
  exact ⟨m, by simp⟩
def eStepLeaves : List Leaf := [.int .i64, .int .u32, .int .u8, .int .u8, .int .u8, .int .u8, .int .u8, .int .u8, .int .u8, .int .u8, .int .u8, .int .u8, .int .u8, .int .u8, .int .u8, .int .u8, .int .u8, .int .u8, .int .u8, .int .u8, .int .i64, .bytes]
theorem estep_of (w : World) (cs : List Value) (h : Leaves w eStepLeaves cs) : ∃ s : EStep, cs = s.cells ∧ s.ip < 4294967296 ∧ Bs w s.v s.f.body := by
  unfold eStepLeaves at h
  obtain ⟨c0, r0, rfl, h0, k0⟩ := h.cons
  obtain ⟨c1, r1, rfl, h1, k1⟩ := k0.cons
  obtain ⟨m, r, rfl, k2⟩ := mac_of k1
  obtain ⟨m1, r2, rfl, k3⟩ := mac_of k2
  obtain ⟨m2, r3, rfl, k4⟩ := mac_of k3
  obtain ⟨c2, r4, rfl, h2, k5⟩ := k4.cons
  obtain ⟨c3, r5, rfl, h3, k6⟩ := k5.cons
  obtain rfl := k6.nil
  obtain ⟨z0, rfl, hz0⟩ := h0
  obtain ⟨z1, rfl, hz1⟩ := h1
  obtain ⟨z2, rfl, hz2⟩ := h2
  obtain ⟨b, hb⟩ := h3
  have hz : 0 ≤ z1 ∧ z1 < 4294967296 := by simp [Lit.wf, IntKind.min, IntKind.max, IntKind.bits, IntKind.signed] at hz1; omega
  obtain ⟨x, rfl⟩ : ∃ x : Nat, z1 = x := ⟨z1.toNat, by omega⟩
  exact ⟨⟨z0, x, m, ⟨m1, m2, z2, b⟩, c3⟩, by simp [EStep.cells, Frm.cells], by show x < _; omega, hb⟩
end Go.Proofs.Ytefpfjdfkecjkaa
