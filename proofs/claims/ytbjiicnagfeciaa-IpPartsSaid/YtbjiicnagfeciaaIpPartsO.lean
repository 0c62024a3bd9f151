/- What came in to IpParts, opened. -/
import Derived.Test.YtbjiicnagfeciaaIpPartsW
import Derived.Test.YtbjiicnagfeciaaLeaves
namespace Go.Proofs.Ytbjiicnagfeciaa
open Go Go.RowKit Go.ChangeShapes Go.WideShapes Go.Deep

def iStepLeaves : List Leaf := [.int .i64, .int .u32, .int .u32, .int .i64, .int .i64, .int .i64, .bool, .bool, .int .i64, .bytes]
theorem istep_of (w : World) (cs : List Value) (h : Leaves w iStepLeaves cs) : ∃ s : IStep, cs = s.cells ∧ s.Ok w := by
  unfold iStepLeaves at h
  obtain ⟨c0, r0, rfl, h0, k0⟩ := h.cons
  obtain ⟨c1, r1, rfl, h1, k1⟩ := k0.cons
  obtain ⟨c2, r2, rfl, h2, k2⟩ := k1.cons
  obtain ⟨c3, r3, rfl, h3, k3⟩ := k2.cons
  obtain ⟨c4, r4, rfl, h4, k4⟩ := k3.cons
  obtain ⟨c5, r5, rfl, h5, k5⟩ := k4.cons
  obtain ⟨c6, r6, rfl, h6, k6⟩ := k5.cons
  obtain ⟨c7, r7, rfl, h7, k7⟩ := k6.cons
  obtain ⟨c8, r8, rfl, h8, k8⟩ := k7.cons
  obtain ⟨c9, r9, rfl, h9, k9⟩ := k8.cons
  obtain rfl := k9.nil
  obtain ⟨z0, rfl, hz0⟩ := h0
  obtain ⟨z1, rfl, hz1⟩ := h1
  obtain ⟨z2, rfl, hz2⟩ := h2
  obtain ⟨z3, rfl, hz3⟩ := h3
  obtain ⟨z4, rfl, hz4⟩ := h4
  obtain ⟨z5, rfl, hz5⟩ := h5
  obtain ⟨b6, rfl⟩ := h6
  obtain ⟨b7, rfl⟩ := h7
  obtain ⟨z8, rfl, hz8⟩ := h8
  obtain ⟨bs, hb⟩ := h9
  simp [Lit.wf, IntKind.min, IntKind.max, IntKind.bits, IntKind.signed] at hz0 hz1 hz2 hz3 hz4 hz5
  obtain ⟨x, rfl⟩ : ∃ x : Nat, z1 = x := ⟨z1.toNat, by omega⟩
  obtain ⟨y, rfl⟩ : ∃ y : Nat, z2 = y := ⟨z2.toNat, by omega⟩
  exact ⟨⟨z0, ⟨x, y, z3, z4, z5, b6, b7, z8, bs⟩, c9⟩, rfl, by show _ ≤ z0; omega, ⟨by show x < _; omega, by show y < _; omega, by show _ ≤ z3; omega, by show z3 ≤ _; omega, by show _ ≤ z4; omega, by show z4 ≤ _; omega⟩, by show _ ≤ z5; omega, hb⟩
end Go.Proofs.Ytbjiicnagfeciaa
