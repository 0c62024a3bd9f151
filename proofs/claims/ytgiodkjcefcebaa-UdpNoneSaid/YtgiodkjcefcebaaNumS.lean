/- Contracts of the document's chapter 1 (undercroftref1): Be, Le, put, PutLe, PutBe. -/
import Derived.Test.YtgiodkjcefcebaaNumR
namespace Go.Proofs.Ytgiodkjcefcebaa
open Go Go.RowKit

/-- what Be has read, its lowest byte last: the bytes turned about -/
theorem beVal_div (l : List UInt8) (j : Nat) (h : j ≤ l.length) : beVal l / 256 ^ j = beVal (l.take (l.length - j)) := by
  induction j with
  | zero => simp
  | succ j ih =>
    rw [Nat.pow_succ, ← Nat.div_div_eq_div_mul, ih (by omega)]
    have e : l.length - j = (l.length - (j + 1)) + 1 := by omega
    rw [e, take_snoc _ _ (by omega), beVal_snoc]
    have := (l[l.length - (j + 1)]'(by omega)).toNat_lt
    omega
theorem beVal_mod (l : List UInt8) (j : Nat) (h : j < l.length) : beVal l / 256 ^ j % 256 = (l[l.length - 1 - j]'(by omega)).toNat := by
  rw [beVal_div l j (by omega)]
  have e : l.length - j = (l.length - 1 - j) + 1 := by omega
  rw [e, take_snoc _ _ (by omega), beVal_snoc]
  have := (l[l.length - 1 - j]'(by omega)).toNat_lt
  omega

theorem fits_dec' (N x : Nat) (h : N ≠ 8) : (((x : Int) / 2 ^ (8 * N)) != 0) = !(fitsOne N x) := by rw [two_pow_8]; exact fits_dec N x h

end Go.Proofs.Ytgiodkjcefcebaa
