/- The steps of a table's play, as they came in. -/
import Derived.Test.YtkgeccmpekclcaaDrcPlaysW
import Derived.Test.YtkgeccmpekclcaaLeaves
namespace Go.Proofs.Ytkgeccmpekclcaa
open Go Go.RowKit
set_option maxRecDepth 100000

def stepLeaves : List Leaf := [.int .i64, .int .u32, .int .i64, .int .u32, .int .u32, .int .u32, .bytes]
theorem u32_of {z : Int} (h : (Lit.int .u32 z).wf = true) : ∃ n : Nat, z = n ∧ n < 4294967296 := by
  simp [Lit.wf, IntKind.min, IntKind.max, IntKind.bits, IntKind.signed] at h
  exact ⟨z.toNat, by omega, by omega⟩
theorem i64_of {z : Int} (h : (Lit.int .i64 z).wf = true) : -9223372036854775808 ≤ z ∧ z ≤ 9223372036854775807 := by
  simp [Lit.wf, IntKind.min, IntKind.max, IntKind.bits, IntKind.signed] at h
  omega
theorem step_of (w : World) (cs : List Value) (h : Leaves w stepLeaves cs) : ∃ s : PStep, cs = s.cells ∧ s.key.Ok ∧ (-9223372036854775808 ≤ s.kind ∧ s.kind ≤ 9223372036854775807) ∧ Bs w s.rv s.rep := by
  obtain ⟨_, r0, rfl, ⟨kind, rfl, w0⟩, h1⟩ := h.cons
  obtain ⟨_, r1, rfl, ⟨z1, rfl, w1⟩, h2⟩ := h1.cons
  obtain ⟨_, r2, rfl, ⟨z2, rfl, w2⟩, h3⟩ := h2.cons
  obtain ⟨_, r3, rfl, ⟨z3, rfl, w3⟩, h4⟩ := h3.cons
  obtain ⟨_, r4, rfl, ⟨z4, rfl, w4⟩, h5⟩ := h4.cons
  obtain ⟨_, r5, rfl, ⟨z5, rfl, w5⟩, h6⟩ := h5.cons
  obtain ⟨v6, r6, rfl, ⟨bs, hbs⟩, h7⟩ := h6.cons
  obtain rfl := h7.nil
  obtain ⟨k1, rfl, b1⟩ := u32_of w1
  obtain ⟨k3, rfl, b3⟩ := u32_of w3
  obtain ⟨k4, rfl, b4⟩ := u32_of w4
  obtain ⟨k5, rfl, b5⟩ := u32_of w5
  have b2 := i64_of w2
  exact ⟨⟨kind, ⟨k1, z2, k3, k4, k5⟩, bs, v6⟩, rfl, ⟨b1, b2.1, b2.2, b3, b4, b5⟩, i64_of w0, hbs⟩
end Go.Proofs.Ytkgeccmpekclcaa
