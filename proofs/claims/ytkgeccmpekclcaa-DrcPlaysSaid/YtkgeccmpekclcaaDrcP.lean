/- Contracts of a call's key. -/
import Derived.Test.YtkgeccmpekclcaaDrcO
namespace Go.Proofs.Ytkgeccmpekclcaa
open Go Go.RowKit
set_option maxRecDepth 100000

theorem keyinfo : (Try.prog.info? 33).map (·.size) = some 5 := by kernel_rfl
theorem rkeyinfo : (Try.prog.info? 40).map (·.size) = some 5 := by kernel_rfl
def uAt4 (b : List UInt8) (i : Nat) : Nat := beVal ((b.drop i).take 4)
theorem uAt4_lt (b : List UInt8) (i : Nat) : uAt4 b i < 4294967296 := by
  have h1 := beVal_lt ((b.drop i).take 4)
  have h2 : ((b.drop i).take 4).length ≤ 4 := by simp; omega
  exact Nat.lt_of_lt_of_le h1 (Nat.pow_le_pow_right (by decide) h2)
theorem cutOf4 (b : List UInt8) (i : Nat) (p : Int) (hp : p = i) (hi : i + 4 ≤ b.length) : cutOf b p 4 = ((b.drop i).take 4, 0) := by
  subst hp
  have h : ¬((i : Int) < 0 ∨ (i : Int) > (b.length : Int) - 4) := by omega
  have h4 : okSize 4 = true := by decide
  simp [cutOf, h4, if_neg h]
def drcOf (ip : Nat) (port : Int) (b : List UInt8) : DKey × Int :=
  if b.length < 24 then (⟨0, 0, 0, 0, 0⟩, 11) else (⟨ip, port, uAt4 b 0, uAt4 b 20, crc b⟩, 0)

theorem of_any (ip : Nat) (port : Int) (v : Value) (b : List UInt8) (w : World) (h : Bs w v b) (hl : b.length ≤ 1099511627776) :
    Calls Try.prog 15 #[.int .u32 (ip : Int), .int .i64 port, v] w fun e w' => e = .returned (.tuple #[(drcOf ip port b).1.val, .int .i64 (drcOf ip port b).2]) ∧ Below w.heap.size w w' := by
  have Hb := hid h
  obtain ⟨A, cap, rfl, _, _, _⟩ := h.cells
  clear h
  by_cases h24 : b.length < 24
  · have Hr := hid (show drcOf ip port b = (⟨0, 0, 0, 0, 0⟩, 11) by unfold drcOf; rw [if_pos h24])
    have h24' : (b.length : Int) < 24 := by omega
    rw [Hr.out]
    dsimp only [DKey.val, DKey.cells]
    go_enter Try.func15, Try.ntmps15
    go_wp2_with fail
    refine ret_cell2 rfl _ _ _ _ rfl (Blk.new _ _ _) Try.underlying33 keyinfo _ rfl rfl ?_
    exact ⟨rfl, below_alloc _ _⟩
  have h24' : ¬ (b.length : Int) < 24 := by omega
  have Hr := hid (show drcOf ip port b = (⟨ip, port, uAt4 b 0, uAt4 b 20, crc b⟩, 0) by unfold drcOf; rw [if_neg h24])
  rw [Hr.out]
  dsimp only [DKey.val, DKey.cells]
  obtain ⟨x, hx⟩ : ∃ n, uAt4 b 0 = n := ⟨_, rfl⟩
  obtain ⟨p, hp⟩ : ∃ n, uAt4 b 20 = n := ⟨_, rfl⟩
  obtain ⟨c, hc⟩ : ∃ n, crc b = n := ⟨_, rfl⟩
  have lx := uAt4_lt b 0
  have lp := uAt4_lt b 20
  rw [hx] at lx ⊢
  rw [hp] at lp ⊢
  rw [hc]
  have w1 : IntKind.u32.wrap (x : Int) = (x : Int) := IntWalk.u32_in _ (by omega)
  have w2 : IntKind.u32.wrap (p : Int) = (p : Int) := IntWalk.u32_in _ (by omega)
  have HB := fun wy (hy : Bs wy (.slice A b.length cap) b) => be_any (.slice A b.length cap) b 0 4 wy hy (by omega) (by omega)
  have HB2 := fun wy (hy : Bs wy (.slice A b.length cap) b) => be_any (.slice A b.length cap) b 20 4 wy hy (by omega) (by omega)
  rw [cutOf4 b 0 0 rfl (by omega)] at HB
  rw [cutOf4 b 20 20 rfl (by omega)] at HB2
  unfold uAt4 at hx hp
  simp only [hx, hp] at HB HB2
  have HC := hid (show crc [b].flatten = c by simpa using hc)
  have H1 := hid HB
  have H2 := hid HB2
  clear HB HB2 hx hp hc
  go_enter Try.func15, Try.ntmps15
  go_wp2_with (first
    | (go_at_call 22; (with_reducible refine (H1.out _ (Hb.out.alloc _)).mono ?_); rintro e w' ⟨rfl, rfl⟩)
    | (go_at_call 22; (with_reducible refine (H2.out _ (Hb.out.alloc _)).mono ?_); rintro e w' ⟨rfl, rfl⟩)
    | (go_at_call 23; refine (crc_any _ [b] _ (rows_one (Hb.out.alloc _) (by simp))).mono ?_; rintro e w' ⟨rfl, rfl⟩; rw [HC.out]))
  refine ret_cell2 rfl _ _ _ _ rfl ((Blk.new w 33 #[.int .u32 (ip : Int), .int .i64 port, .int .u32 (x : Int), .int .u32 (p : Int), .int .u32 (c : Int)]).alloc _) Try.underlying33 keyinfo _ rfl rfl ?_
  exact ⟨rfl, below_alloc' (below_alloc w _) _⟩

theorem rof_any (ip : Nat) (port : Int) (v : Value) (b : List UInt8) (w : World) (h : Bs w v b) (hl : b.length ≤ 1099511627776) :
    Calls Try.prog 16 #[.int .u32 (ip : Int), .int .i64 port, v] w fun e w' => e = .returned (.tuple #[(drcOf ip port b).1.val, .int .i64 (drcOf ip port b).2]) ∧ Below w.heap.size w w' := by
  have Hb := hid h
  obtain ⟨A, cap, rfl, _, _, _⟩ := h.cells
  clear h
  by_cases h24 : b.length < 24
  · have Hr := hid (show drcOf ip port b = (⟨0, 0, 0, 0, 0⟩, 11) by unfold drcOf; rw [if_pos h24])
    have h24' : (b.length : Int) < 24 := by omega
    rw [Hr.out]
    dsimp only [DKey.val, DKey.cells]
    go_enter Try.func16, Try.ntmps16
    go_wp2_with fail
    refine ret_cell2 rfl _ _ _ _ rfl (Blk.new _ _ _) Try.underlying40 rkeyinfo _ rfl rfl ?_
    exact ⟨rfl, below_alloc _ _⟩
  have h24' : ¬ (b.length : Int) < 24 := by omega
  have Hr := hid (show drcOf ip port b = (⟨ip, port, uAt4 b 0, uAt4 b 20, crc b⟩, 0) by unfold drcOf; rw [if_neg h24])
  rw [Hr.out]
  dsimp only [DKey.val, DKey.cells]
  obtain ⟨x, hx⟩ : ∃ n, uAt4 b 0 = n := ⟨_, rfl⟩
  obtain ⟨p, hp⟩ : ∃ n, uAt4 b 20 = n := ⟨_, rfl⟩
  obtain ⟨c, hc⟩ : ∃ n, crc b = n := ⟨_, rfl⟩
  have lx := uAt4_lt b 0
  have lp := uAt4_lt b 20
  rw [hx] at lx ⊢
  rw [hp] at lp ⊢
  rw [hc]
  have w1 : IntKind.u32.wrap (x : Int) = (x : Int) := IntWalk.u32_in _ (by omega)
  have w2 : IntKind.u32.wrap (p : Int) = (p : Int) := IntWalk.u32_in _ (by omega)
  have HB := fun wy (hy : Bs wy (.slice A b.length cap) b) => rbe_any (.slice A b.length cap) b 0 4 wy hy (by omega) (by omega)
  have HB2 := fun wy (hy : Bs wy (.slice A b.length cap) b) => rbe_any (.slice A b.length cap) b 20 4 wy hy (by omega) (by omega)
  rw [cutOf4 b 0 0 rfl (by omega)] at HB
  rw [cutOf4 b 20 20 rfl (by omega)] at HB2
  unfold uAt4 at hx hp
  simp only [hx, hp] at HB HB2
  have HC := hid (show crc b = c from hc)
  have H1 := hid HB
  have H2 := hid HB2
  clear HB HB2 hx hp hc
  go_enter Try.func16, Try.ntmps16
  go_wp2_with (first
    | (go_at_call 24; (with_reducible refine (H1.out _ (Hb.out.alloc _)).mono ?_); rintro e w' ⟨rfl, rfl⟩)
    | (go_at_call 24; (with_reducible refine (H2.out _ (Hb.out.alloc _)).mono ?_); rintro e w' ⟨rfl, rfl⟩)
    | (go_at_call 25; refine (rcrc_any _ b _ (Hb.out.alloc _)).mono ?_; rintro e w' ⟨rfl, rfl⟩; rw [HC.out]))
  refine ret_cell2 rfl _ _ _ _ rfl ((Blk.new w 40 #[.int .u32 (ip : Int), .int .i64 port, .int .u32 (x : Int), .int .u32 (p : Int), .int .u32 (c : Int)])) Try.underlying40 rkeyinfo _ rfl rfl ?_
  exact ⟨rfl, below_alloc w _⟩
end Go.Proofs.Ytkgeccmpekclcaa
