/- Keys of a map of calls: a struct of five numbers. -/
import Derived.Test.YtkgeccmpekclcaaRegion2
import Derived.Test.YtkgeccmpekclcaaKept
import Derived.Test.YtkgeccmpekclcaaNumH
import Derived.Maps.OwnSet
import Derived.DeepKeys4
namespace Go.Proofs.Ytkgeccmpekclcaa
open Go Go.RowKit
open Go.Maps (Keyed)
set_option maxRecDepth 100000

structure DKey where
  ip : Nat
  port : Int
  xid : Nat
  proc : Nat
  sum : Nat
deriving DecidableEq

structure DKey.Ok (k : DKey) : Prop where
  ip : k.ip < 4294967296
  lo : -9223372036854775808 ≤ k.port
  hi : k.port ≤ 9223372036854775807
  xid : k.xid < 4294967296
  proc : k.proc < 4294967296
  sum : k.sum < 4294967296
def DKey.cells (k : DKey) : List Value := [.int .u32 (k.ip : Int), .int .i64 k.port, .int .u32 (k.xid : Int), .int .u32 (k.proc : Int), .int .u32 (k.sum : Int)]
theorem DKey.cells_inj {a b : DKey} (h : a.cells = b.cells) : a = b := by
  obtain ⟨a1, a2, a3, a4, a5⟩ := a
  obtain ⟨b1, b2, b3, b4, b5⟩ := b
  simp only [DKey.cells, List.cons.injEq, Value.int.injEq, true_and, and_true] at h
  obtain ⟨h1, h2, h3, h4, h5⟩ := h
  congr 1 <;> omega

theorem dkeyed : Keyed Try.prog 33 := Keyed.of_law (deep_law_laid (by kernel_rfl) (m := 20) (by decide) (of_decide_eq_true (by kernel_rfl)) (by kernel_rfl) (by kernel_rfl))

theorem wf_u32 (n : Nat) (h : n < 4294967296) : (Lit.int .u32 (n : Int)).wf = true := by
  simp [Lit.wf, IntKind.min, IntKind.max, IntKind.bits, IntKind.signed]; omega
theorem wf_i64 (n : Int) (h : -9223372036854775808 ≤ n) (h2 : n ≤ 9223372036854775807) : (Lit.int .i64 n).wf = true := by
  simp [Lit.wf, IntKind.min, IntKind.max, IntKind.bits, IntKind.signed]; omega
theorem klit_u32 (d : Nat) (n : Nat) (h : n < 4294967296) : Try.prog.keyLits (d + 1) 31 [.int .u32 (n : Int)] = some [.int .u32 (n : Int)] := by
  unfold Program.keyLits
  rw [Try.underlying31]
  simp [wf_u32 n h]
theorem klit_int (d : Nat) (n : Int) (h : -9223372036854775808 ≤ n) (h2 : n ≤ 9223372036854775807) : Try.prog.keyLits (d + 1) 3 [.int .i64 n] = some [.int .i64 n] := by
  unfold Program.keyLits
  rw [Try.underlying3]
  simp [wf_i64 n h h2]
theorem dkey_of (k : DKey) (h : k.Ok) : ∃ kl, keyOf Try.prog 33 (.agg k.cells.toArray) = some kl := by
  have h1 : Try.prog.keyType 33 = true := by kernel_rfl
  have h2 : Try.prog.cellsOf 33 = 5 := by kernel_rfl
  have h3 : Try.prog.cellsOf 31 = 1 := by kernel_rfl
  have h4 : Try.prog.cellsOf 3 = 1 := by kernel_rfl
  obtain ⟨d, hd⟩ : ∃ d, Try.prog.types.size = d + 1 := ⟨Try.prog.types.size - 1, by kernel_rfl⟩
  unfold keyOf
  rw [Try.underlying33]
  simp only [h1, Value.formed, Try.underlying33, h2, hd]
  unfold Program.keyLits
  rw [Try.underlying33]
  simp [h2, h3, h4, DKey.cells, Value.cells, klit_u32 d _ h.ip, klit_int d _ h.lo h.hi, klit_u32 d _ h.xid, klit_u32 d _ h.proc, klit_u32 d _ h.sum]
end Go.Proofs.Ytkgeccmpekclcaa
