/- A frame that tells its number. -/
import Derived.Test.YtgiegiobigdplaaVnZ
namespace Go.Proofs.Ytgiegiobigdplaa
open Go Go.RowKit
attribute [local go_sem ↓] Go.wp_at_zero Go.wp_at_succ
set_option maxRecDepth 100000
set_option linter.unusedSimpArgs false
set_option linter.unusedVariables false

theorem u8w (z : Int) : ∃ x : UInt8, IntKind.u8.wrap z = (x.toNat : Int) := ⟨UInt8.ofNat (z % 256).toNat, by rw [IntKind.wrap_u8]; simp; omega⟩
theorem Blk.set8 {w : World} {g : Nat} {t : TypeId} {b : List UInt8} (h : Blk w g t (b.map u8v)) (i : Nat) (z : Int) : ∃ c : List UInt8, c.length = b.length ∧ Blk (w.setCell ⟨g, i, none⟩ (.int .u8 (z % 256))) g t (c.map u8v) := by
  obtain ⟨x, hx⟩ := u8w z
  rw [IntKind.wrap_u8] at hx
  refine ⟨b.set i x, List.length_set .., ?_⟩
  rw [hx, List.map_set]
  exact h.set_ i _
def FramePost (w : World) (e : Ending) (w' : World) : Prop := ∃ (g : Nat) (b : List UInt8), 14 ≤ b.length ∧ b.length ≤ 1514 ∧ e = .returned (.slice (some ⟨g, 0, none⟩) b.length b.length) ∧ w.heap.size ≤ g ∧ Blk w' g 5 (b.map u8v) ∧ Below w.heap.size w w'
theorem vframe_at (x z : Int) (w : World) : Calls Try.prog 24 #[.int .i64 x, .int .i64 z] w (FramePost w) := by
  have HW := hid (fun wy => within_at z 1501 1501 wy rfl (by decide) (by decide))
  go_enter Try.func24, Try.ntmps24
  go_upto_region 2 with (go_at_call 23; refine (HW.out _).mono ?_; rintro e w' ⟨k, hk, rfl, hw⟩; subst hw; obtain ⟨n, hn⟩ : ∃ n, 14 + k = n := ⟨_, rfl⟩; have hnI : (14 : Int) + (k : Int) = (n : Int) := (by omega); have hnb : 14 ≤ n ∧ n ≤ 1514 := (by omega); have hmk := run_make8 u8ok .i64 .i64 (n : Int) n rfl (by omega); clear hk hn)
  have hz : (zero8 n).toList = (zeros n).map u8v := by rw [zeros, List.map_replicate]; rfl
  have B1 := hid (show Blk (w.alloc (.cells (zero8 n) 5)) w.heap.size 5 ((zeros n).map u8v) from by rw [← hz]; exact Blk.new w 5 (zero8 n))
  have K1 := hid (below_alloc w (.cells (zero8 n) 5))
  have Hg := hid (show w.heap.size ≤ w.heap.size from Nat.le_refl _)
  have Hn := hid hnb
  clear hz hmk hnI
  generalize w.alloc (.cells (zero8 n) 5) = w1 at *
  obtain ⟨g, hg⟩ : ∃ g, w.heap.size = g := ⟨_, rfl⟩
  rw [hg] at B1
  have HG := hid hg
  simp only [hg]
  have hc0 : w1.cell? ⟨g, 0, none⟩ = some (.int .u8 0) := (B1.out.cell 0).trans (by rw [List.getElem?_eq_getElem (by rw [List.length_map, zeros_len]; omega)]; simp [zeros])
  have hc1 : w1.cell? ⟨g, 1, none⟩ = some (.int .u8 0) := (B1.out.cell 1).trans (by rw [List.getElem?_eq_getElem (by rw [List.length_map, zeros_len]; omega)]; simp [zeros])
  have z0 := B1.out.frozen 0
  have z1 := B1.out.frozen 1
  go_upto_region 3 with fail
  obtain ⟨c1, hl1, hb1⟩ := B1.out.set8 0 x
  obtain ⟨c2, hl2, hb2⟩ := hb1.set8 1 (x / 256)
  rw [zeros_len] at hl1
  rw [hl1] at hl2
  have K3 := hid (show Below w.heap.size w _ from (K1.out.setCell (p := ⟨g, 0, none⟩) (Nat.le_of_eq hg) (.int .u8 (x % 256))).setCell (p := ⟨g, 1, none⟩) (Nat.le_of_eq hg) (.int .u8 (x / 256 % 256)))
  have B3 := hid hb2
  have Hl2 := hid hl2
  clear hb1 hb2 hl1 hl2 hc0 hc1 z0 z1 B1 K1
  generalize (w1.setCell ⟨g, 0, none⟩ (.int .u8 (x % 256))).setCell ⟨g, 1, none⟩ (.int .u8 (x / 256 % 256)) = w3 at *
  obtain ⟨p, hp⟩ : ∃ p, p + 1 = n := ⟨n - 1, by omega⟩
  have hpI : (n : Int) - 1 = (p : Int) := by omega
  have hpn : (p : Int) < (n : Int) := by omega
  obtain ⟨old, hco⟩ : ∃ old, w3.cell? ⟨g, p, none⟩ = some old := ⟨_, (B3.out.cell p).trans (List.getElem?_eq_getElem (by rw [List.length_map, Hl2.out]; omega))⟩
  have zp := B3.out.frozen p
  go_wp2_with fail
  go_ret
  obtain ⟨c4, hl4, hb4⟩ := B3.out.set8 p z
  rw [Hl2.out] at hl4
  exact ⟨g, c4, by rw [hl4]; exact Hn.out.1, by rw [hl4]; exact Hn.out.2, by rw [hl4]; rfl, Nat.le_of_eq hg, hb4, K3.out.setCell (p := ⟨g, p, none⟩) (Nat.le_of_eq hg) _⟩
end Go.Proofs.Ytgiegiobigdplaa
