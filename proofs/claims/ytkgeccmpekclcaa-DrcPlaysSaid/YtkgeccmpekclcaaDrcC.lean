/- The two predicates on calls. -/
import Derived.Test.YtkgeccmpekclcaaDrcB
import Derived.Deep.Cut
import Derived.Deep.CutRange
namespace Go.Proofs.Ytkgeccmpekclcaa
open Go Go.RowKit
attribute [local go_sem ↓] Go.wp_at_zero Go.wp_at_succ
set_option maxRecDepth 100000

/-- the seven cells of a call that is known -/
def callCells (k : DKey) (done : Bool) (rv : Value) : List Value := k.cells ++ [.bool done, rv]

theorem begin1_any (g : Nat) (k : DKey) (done : Bool) (rv : Value) (w : World) (h : Blk w g 65 (callCells k done rv)) :
    Calls Try.prog 19 #[ptrV (some g)] w fun e w' => e = .returned (.bool done) ∧ ∃ q', w' = w.drewN q' := by
  have c5 : w.cell? ⟨g, 5, none⟩ = some (.bool done) := h.cell 5
  unfold ptrV
  go_enter Try.func19, Try.ntmps19
  go_wp2
  go_ret
  exact ⟨rfl, 0, rfl⟩

theorem end1_at (g gk : Nat) (k k2 : DKey) (done eb : Bool) (heb : decide (k = k2) = eb) (rv : Value) (w : World) (h : Blk w g 65 (callCells k done rv)) (h2 : Blk w gk 33 k2.cells) :
    Calls Try.prog 21 #[ptrV (some g), ptrV (some gk)] w fun e w' => e = .returned (.bool (eb && !done)) ∧ ∃ q', w' = w.drewN q' := by
  have Heb := hid heb
  clear heb
  obtain ⟨a1, a2, a3, a4, a5⟩ := k
  obtain ⟨b1, b2, b3, b4, b5⟩ := k2
  have c0 : w.cell? ⟨g, 0, none⟩ = some (.int .u32 (a1 : Int)) := h.cell 0
  have c1 : w.cell? ⟨g, 1, none⟩ = some (.int .i64 a2) := h.cell 1
  have c2 : w.cell? ⟨g, 2, none⟩ = some (.int .u32 (a3 : Int)) := h.cell 2
  have c3 : w.cell? ⟨g, 3, none⟩ = some (.int .u32 (a4 : Int)) := h.cell 3
  have c4 : w.cell? ⟨g, 4, none⟩ = some (.int .u32 (a5 : Int)) := h.cell 4
  have c5 : w.cell? ⟨g, 5, none⟩ = some (.bool done) := h.cell 5
  have d0 : w.cell? ⟨gk, 0, none⟩ = some (.int .u32 (b1 : Int)) := h2.cell 0
  have d1 : w.cell? ⟨gk, 1, none⟩ = some (.int .i64 b2) := h2.cell 1
  have d2 : w.cell? ⟨gk, 2, none⟩ = some (.int .u32 (b3 : Int)) := h2.cell 2
  have d3 : w.cell? ⟨gk, 3, none⟩ = some (.int .u32 (b4 : Int)) := h2.cell 3
  have d4 : w.cell? ⟨gk, 4, none⟩ = some (.int .u32 (b5 : Int)) := h2.cell 4
  unfold ptrV
  go_enter Try.func21, Try.ntmps21
  go_upto_region 1 with (fail)
  by_cases e1 : a1 = b1
  case neg =>
    have f1 : decide ((a1 : Int) = (b1 : Int)) = false := decide_eq_false (by omega)
    have f2 : ((a1 : Int) == (b1 : Int)) = false := by simp; omega
    have f3 : ¬ (a1 : Int) = (b1 : Int) := by omega
    obtain rfl : eb = false := by rw [← Heb.out]; exact decide_eq_false (fun e => e1 (by injection e))
    clear e1
    go_quiet (fail)
    go_wp2
    go_ret
    exact ⟨rfl, _, rfl⟩
  subst e1
  by_cases e2 : a2 = b2
  case neg =>
    have f1 : decide (a2 = b2) = false := decide_eq_false (by omega)
    have f2 : (a2 == b2) = false := by simp; omega
    have f3 : ¬ a2 = b2 := by omega
    obtain rfl : eb = false := by rw [← Heb.out]; exact decide_eq_false (fun e => e2 (by injection e))
    clear e2
    go_quiet (fail)
    go_wp2
    go_ret
    exact ⟨rfl, _, rfl⟩
  subst e2
  by_cases e3 : a3 = b3
  case neg =>
    have f1 : decide ((a3 : Int) = (b3 : Int)) = false := decide_eq_false (by omega)
    have f2 : ((a3 : Int) == (b3 : Int)) = false := by simp; omega
    have f3 : ¬ (a3 : Int) = (b3 : Int) := by omega
    obtain rfl : eb = false := by rw [← Heb.out]; exact decide_eq_false (fun e => e3 (by injection e))
    clear e3
    go_quiet (fail)
    go_wp2
    go_ret
    exact ⟨rfl, _, rfl⟩
  subst e3
  by_cases e4 : a4 = b4
  case neg =>
    have f1 : decide ((a4 : Int) = (b4 : Int)) = false := decide_eq_false (by omega)
    have f2 : ((a4 : Int) == (b4 : Int)) = false := by simp; omega
    have f3 : ¬ (a4 : Int) = (b4 : Int) := by omega
    obtain rfl : eb = false := by rw [← Heb.out]; exact decide_eq_false (fun e => e4 (by injection e))
    clear e4
    go_quiet (fail)
    go_wp2
    go_ret
    exact ⟨rfl, _, rfl⟩
  subst e4
  by_cases e5 : a5 = b5
  case neg =>
    have f1 : decide ((a5 : Int) = (b5 : Int)) = false := decide_eq_false (by omega)
    have f2 : ((a5 : Int) == (b5 : Int)) = false := by simp; omega
    have f3 : ¬ (a5 : Int) = (b5 : Int) := by omega
    obtain rfl : eb = false := by rw [← Heb.out]; exact decide_eq_false (fun e => e5 (by injection e))
    clear e5
    go_quiet (fail)
    go_wp2
    go_ret
    exact ⟨rfl, _, rfl⟩
  subst e5
  obtain rfl : eb = true := by rw [← Heb.out]; exact decide_eq_true rfl
  go_quiet (fail)
  go_wp2
  go_ret
  exact ⟨rfl, _, rfl⟩
end Go.Proofs.Ytkgeccmpekclcaa
