/- Several cells of a known block laid anew. No program is named here. -/
import Derived.Test.YtbjiicnagfeciaaRegion2
import Derived.Deep.RegionLaw
import Derived.Deep.Upon
namespace Go.Proofs.Ytbjiicnagfeciaa
open Go Go.RowKit

def setAll : List Value → Nat → List Value → List Value
  | xs, _, [] => xs
  | xs, o, v :: r => setAll (xs.set o v) (o + 1) r
theorem setAll_len (vs : List Value) : ∀ (xs : List Value) (o : Nat), (setAll xs o vs).length = xs.length := by
  induction vs with
  | nil => intro xs o; rfl
  | cons v r ih => intro xs o; simp [setAll, ih]
theorem setAll_eq (vs : List Value) : ∀ (xs : List Value) (o : Nat), o + vs.length ≤ xs.length → setAll xs o vs = xs.take o ++ vs ++ xs.drop (o + vs.length) := by
  induction vs with
  | nil => intro xs o h; simp [setAll]
  | cons v r ih =>
    intro xs o h
    simp only [List.length_cons] at h
    have ho : o < xs.length := by omega
    rw [setAll, ih (xs.set o v) (o + 1) (by simp; omega)]
    have e1 : (xs.set o v).take (o + 1) = xs.take o ++ [v] := by
      rw [List.set_eq_take_append_cons_drop, if_pos ho, show o + 1 = (xs.take o).length + 1 by simp; omega]
      simp [List.take_append]
      exact List.take_of_length_le (by simp <;> omega)
    have e2 : (xs.set o v).drop (o + 1 + r.length) = xs.drop (o + (v :: r).length) := by
      rw [List.drop_set, if_pos (by omega)]
      congr 1
      simp; omega
    rw [e1, e2]
    simp
theorem Blk.setCells {g : Nat} {t : TypeId} (vs : List Value) : ∀ {w : World} {xs : List Value} (o : Nat), Blk w g t xs → Blk (w.setCells g o vs) g t (setAll xs o vs) := by
  induction vs with
  | nil => intro w xs o h; exact h
  | cons v r ih => intro w xs o h; exact ih (o + 1) (h.set_ o v)
theorem grown_setCells (g : Nat) (vs : List Value) : ∀ (w : World) (o : Nat), w.grownBy (w.setCells g o vs) (some g) := by
  induction vs with
  | nil => intro w o; exact ⟨rfl, rfl, rfl, Nat.le_refl _, fun _ _ _ => rfl⟩
  | cons v r ih => intro w o; exact grown_trans (grown_set w g o v) (ih _ _)
theorem grown_drew (w : World) (r : Option Nat) : w.grownBy w.drew r := ⟨rfl, rfl, rfl, Nat.le_refl _, fun _ _ _ => rfl⟩
/-- one element taken out of the first n of a row of one-cell elements; what stood last becomes z -/
theorem erase_take (xs : List Value) (n i : Nat) (z : Value) (hi : i < n) (hn : n ≤ xs.length) :
    (setAll (setAll xs i ((xs.take n).drop (i + 1))) (n - 1) [z]).take (n - 1) = (xs.take n).eraseIdx i := by
  have hl : ((xs.take n).drop (i + 1)).length = n - (i + 1) := by simp; omega
  rw [setAll_eq _ _ _ (by rw [setAll_len]; simp; omega), List.append_assoc, List.take_left' (by simp [setAll_len]; omega), setAll_eq _ _ _ (by rw [hl]; omega), hl]
  rw [List.take_left' (by simp; omega), List.eraseIdx_eq_take_drop_succ, List.take_take, Nat.min_eq_left (by omega)]
end Go.Proofs.Ytbjiicnagfeciaa
