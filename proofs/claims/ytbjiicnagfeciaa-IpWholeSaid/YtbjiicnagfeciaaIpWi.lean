/- Numbers within, of chapter 13. -/
import Derived.Test.YtbjiicnagfeciaaPtA
namespace Go.Proofs.Ytbjiicnagfeciaa
open Go Go.RowKit
attribute [local go_sem ↓] Go.wp_at_zero Go.wp_at_succ
set_option maxRecDepth 100000

theorem within_any (at_ : Int) (n : Nat) (w : World) (hn : 0 < n) (hn2 : n ≤ 1099511627776) :
    Calls Try.prog 19 #[.int .i64 at_, .int .i64 n] w fun e w' => ∃ k : Nat, k < n ∧ e = .returned (.int .i64 k) ∧ w = w' := by
  have hb : (at_.tmod (n : Int)).natAbs < n := by rw [Int.natAbs_tmod]; exact Nat.mod_lt _ (by omega)
  have hne : (n : Int) ≠ 0 := by omega
  go_enter Try.func19, Try.ntmps19
  by_cases hneg : at_.tmod (n : Int) < 0
  · have hw : IntKind.i64.wrap (at_.tmod (n : Int)) = at_.tmod (n : Int) := IntWalk.i64_in _ (by omega)
    go_wp2_with fail
    go_ret
    exact ⟨(at_.tmod (n : Int) + n).toNat, by omega, ret_int (by omega), rfl⟩
  · have hw : IntKind.i64.wrap (at_.tmod (n : Int)) = at_.tmod (n : Int) := IntWalk.i64_in _ (by omega)
    go_wp2_with fail
    go_ret
    exact ⟨(at_.tmod (n : Int)).toNat, by omega, ret_int (by omega), rfl⟩
theorem within_at (at_ nI : Int) (n : Nat) (w : World) (h : nI = n) (hn : 0 < n) (hn2 : n ≤ 1099511627776) :
    Calls Try.prog 19 #[.int .i64 at_, .int .i64 nI] w fun e w' => ∃ k : Nat, k < n ∧ e = .returned (.int .i64 k) ∧ w = w' := by
  subst h
  exact within_any at_ n w hn hn2
theorem within_full (at_ : Int) (n : Nat) (w : World) (hn : 0 < n) (hn2 : n ≤ 1099511627776) :
    Calls Try.prog 19 #[.int .i64 at_, .int .i64 n] w fun e w' => ∃ k : Nat, k < n ∧ e = .returned (.int .i64 k) ∧ w = w' ∧ ∀ i : Nat, at_ = (i : Int) → k = i % n := by
  have hb : (at_.tmod (n : Int)).natAbs < n := by rw [Int.natAbs_tmod]; exact Nat.mod_lt _ (by omega)
  have hne : (n : Int) ≠ 0 := by omega
  have hex : ∀ i : Nat, at_ = (i : Int) → at_.tmod (n : Int) = ((i % n : Nat) : Int) := fun i hi => by subst hi; rw [Int.tmod_eq_emod_of_nonneg (by omega)]; omega
  have Hex := hid hex
  clear hex
  go_enter Try.func19, Try.ntmps19
  by_cases hneg : at_.tmod (n : Int) < 0
  · have hw : IntKind.i64.wrap (at_.tmod (n : Int)) = at_.tmod (n : Int) := IntWalk.i64_in _ (by omega)
    go_wp2_with fail
    go_ret
    exact ⟨(at_.tmod (n : Int) + n).toNat, by omega, ret_int (by omega), rfl, fun i hi => by have := Hex.out i hi; omega⟩
  · have hw : IntKind.i64.wrap (at_.tmod (n : Int)) = at_.tmod (n : Int) := IntWalk.i64_in _ (by omega)
    go_wp2_with fail
    go_ret
    exact ⟨(at_.tmod (n : Int)).toNat, by omega, ret_int (by omega), rfl, fun i hi => by have := Hex.out i hi; omega⟩
end Go.Proofs.Ytbjiicnagfeciaa
