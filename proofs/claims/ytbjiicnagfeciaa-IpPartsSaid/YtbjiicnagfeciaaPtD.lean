/- Contract of ip.wrong. -/
import Derived.Test.YtbjiicnagfeciaaPtA
namespace Go.Proofs.Ytbjiicnagfeciaa
open Go Go.RowKit
attribute [local go_sem ↓] Go.wp_at_zero Go.wp_at_succ
set_option maxRecDepth 100000

set_option maxHeartbeats 1000000 in
theorem wrong_any (v : Value) (p : Pk) (w : World) (h : Bs w v p.body) :
    Calls Try.prog 36 #[.agg (pkCells p v).toArray] w fun e w' => e = .returned (.bool (pWrong p)) ∧ Below w.heap.size w w' := by
  obtain ⟨src, dst, proto, id, off, more, whole, ttl, body⟩ := p
  obtain ⟨_, A, cap, rfl, k1, k2, _⟩ := h
  simp only at k1
  obtain ⟨ans, hans⟩ : ∃ b, pWrong ⟨src, dst, proto, id, off, more, whole, ttl, body⟩ = b := ⟨_, rfl⟩
  rw [hans]
  unfold pWrong at hans
  dsimp only [pkCells] at hans ⊢
  have hcm : cap ≤ 9223372036854775807 := by simp only [maxLen] at k2; omega
  generalize hn : body.length = n at *
  clear hn k2
  have z1 : (n : Int).tmod 8 = (n : Int) % 8 := by rw [Int.tmod_eq_emod_of_nonneg (by omega)]
  by_cases g1 : more = true ∧ (n = 0 ∨ n % 8 ≠ 0)
  · obtain ⟨rfl, g1⟩ := g1
    obtain rfl : ans = true := by rw [← hans]; rcases g1 with g1 | g1 <;> simp [g1]
    clear hans
    rcases g1 with g1 | g1
    · subst g1
      (go_enter Try.func36, Try.ntmps36; go_wp2_with fail; go_ret; exact ⟨rfl, below_alloc _ _⟩)
    · have z2 : ((n : Int) % 8 != 0) = true := by simp; omega
      have z3 : ((n : Int) == 0) = false := by simp; omega
      (go_enter Try.func36, Try.ntmps36; go_wp2_with fail; go_ret; exact ⟨rfl, below_alloc _ _⟩)
  have g1' : more = false ∨ more = true ∧ ((n : Int) == 0) = false ∧ ((n : Int) % 8 != 0) = false := by
    cases more
    · exact .inl rfl
    · refine .inr ⟨rfl, ?_, ?_⟩ <;> simp at g1 ⊢ <;> omega
  have g0 : (more && (decide (n = 0) || decide (n % 8 ≠ 0))) = false := by
    rcases g1' with rfl | ⟨rfl, h1, h2⟩
    · rfl
    · simp at h1 h2 ⊢; omega
  rw [g0, Bool.false_or] at hans
  clear g1 g0
  by_cases g2 : off < 0
  · obtain rfl : ans = true := by rw [← hans]; simp [g2]
    clear hans
    rcases g1' with rfl | ⟨rfl, h1, h2⟩
    · (go_enter Try.func36, Try.ntmps36; go_wp2_with fail; go_ret; exact ⟨rfl, below_alloc _ _⟩)
    · (go_enter Try.func36, Try.ntmps36; go_wp2_with fail; go_ret; exact ⟨rfl, below_alloc _ _⟩)
  have z4 : off.tmod 8 = off % 8 := by rw [Int.tmod_eq_emod_of_nonneg (by omega)]
  by_cases g3 : off % 8 = 0
  case neg =>
    obtain rfl : ans = true := by rw [← hans]; simp [g3]
    clear hans
    have z5 : (off % 8 != 0) = true := by simpa using g3
    rcases g1' with rfl | ⟨rfl, h1, h2⟩
    · (go_enter Try.func36, Try.ntmps36; go_wp2_with fail; go_ret; exact ⟨rfl, below_alloc _ _⟩)
    · (go_enter Try.func36, Try.ntmps36; go_wp2_with fail; go_ret; exact ⟨rfl, below_alloc _ _⟩)
  have z5 : (off % 8 != 0) = false := by simpa using g3
  by_cases g4 : 65515 < n
  · obtain rfl : ans = true := by rw [← hans]; simp [g4]
    clear hans
    have z6 : (n : Int) > 65515 := by omega
    rcases g1' with rfl | ⟨rfl, h1, h2⟩
    · (go_enter Try.func36, Try.ntmps36; go_wp2_with fail; go_ret; exact ⟨rfl, below_alloc _ _⟩)
    · (go_enter Try.func36, Try.ntmps36; go_wp2_with fail; go_ret; exact ⟨rfl, below_alloc _ _⟩)
  have z6 : ¬ (n : Int) > 65515 := by omega
  have z7 : IntKind.i64.wrap (65515 - (n : Int)) = 65515 - (n : Int) := IntWalk.i64_in _ (by omega)
  by_cases g5 : 65515 - (n : Int) < off
  · obtain rfl : ans = true := by rw [← hans]; simp [g5]
    clear hans
    have z8 : off > 65515 - (n : Int) := by omega
    rcases g1' with rfl | ⟨rfl, h1, h2⟩
    · (go_enter Try.func36, Try.ntmps36; go_wp2_with fail; go_ret; exact ⟨rfl, below_alloc _ _⟩)
    · (go_enter Try.func36, Try.ntmps36; go_wp2_with fail; go_ret; exact ⟨rfl, below_alloc _ _⟩)
  · obtain rfl : ans = false := by rw [← hans]; simp [g2, g3, g4]; omega
    clear hans
    have z8 : ¬ off > 65515 - (n : Int) := by omega
    rcases g1' with rfl | ⟨rfl, h1, h2⟩
    · (go_enter Try.func36, Try.ntmps36; go_wp2_with fail; go_ret; exact ⟨rfl, below_alloc _ _⟩)
    · (go_enter Try.func36, Try.ntmps36; go_wp2_with fail; go_ret; exact ⟨rfl, below_alloc _ _⟩)
end Go.Proofs.Ytbjiicnagfeciaa
