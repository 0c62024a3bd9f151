/- The law's own word for a key; a turned byte turns a call's key. -/
import Derived.Test.YtkgeccmpekclcaaDrcP
import Derived.Test.YtkgeccmpekclcaaNumCheckL
namespace Go.Proofs.Ytkgeccmpekclcaa
open Go Go.RowKit
set_option maxRecDepth 100000

theorem theirs_any (k : DKey) (w : World) : Calls Try.prog 11 #[k.val] w fun e w' => e = .returned k.val ∧ Below w.heap.size w w' := by
  obtain ⟨k1, k2, k3, k4, k5⟩ := k
  dsimp only [DKey.val, DKey.cells]
  go_enter Try.func11, Try.ntmps11
  go_wp2_with fail
  have hb := Blk.new (w.alloc (.cells #[.int .u32 (k1 : Int), .int .i64 k2, .int .u32 (k3 : Int), .int .u32 (k4 : Int), .int .u32 (k5 : Int)] 33)) 40 #[.int .u32 (k1 : Int), .int .i64 k2, .int .u32 (k3 : Int), .int .u32 (k4 : Int), .int .u32 (k5 : Int)]
  rw [World.size_alloc] at hb
  refine ret_cell1 rfl _ _ _ _ rfl hb Try.underlying40 rkeyinfo rfl ?_
  exact ⟨rfl, below_alloc' (below_alloc _ _) _⟩

/-- one byte turned: another key -/
theorem drcOf_turned (ip : Nat) (port : Int) (b : List UInt8) (h : 24 ≤ b.length) (i : Nat) (hi : i < b.length) (y : UInt8) (hy : b[i] ≠ y) : (drcOf ip port (b.set i y)).1 ≠ (drcOf ip port b).1 := by
  unfold drcOf
  rw [if_neg (by simp; omega), if_neg (by omega)]
  intro e
  injection e with _ _ _ _ e
  rw [set_split b i y hi] at e
  have e2 : crc b = crc (b.take i ++ b[i] :: b.drop (i + 1)) := by rw [← split_at b i hi]
  rw [e2] at e
  exact crc_turned _ _ _ _ hy e.symm
end Go.Proofs.Ytkgeccmpekclcaa
