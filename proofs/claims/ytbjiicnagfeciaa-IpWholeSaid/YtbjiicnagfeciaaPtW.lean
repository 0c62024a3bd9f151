/- What was cut, added in any order, is whole at the last one that lacked. -/
import Derived.Test.YtbjiicnagfeciaaPtS
namespace Go.Proofs.Ytbjiicnagfeciaa
open Go Go.RowKit

/-- the sum of f over those below n that stand in js -/
def sumIn (f : Nat → Nat) (js : List Nat) : Nat → Nat
  | 0 => 0
  | n + 1 => sumIn f js n + if n ∈ js then f n else 0
theorem sumIn_none (f : Nat → Nat) (n : Nat) : sumIn f [] n = 0 := by
  induction n with
  | zero => rfl
  | succ n ih => unfold sumIn; rw [ih]; simp
theorem sumIn_snoc (f : Nat → Nat) (js : List Nat) (j n : Nat) (hj : j ∉ js) : sumIn f (js ++ [j]) n = sumIn f js n + if j < n then f j else 0 := by
  induction n with
  | zero => rfl
  | succ n ih =>
    unfold sumIn
    rw [ih]
    by_cases e : n = j
    · subst e
      rw [if_neg (by omega), if_pos (by simp), if_neg hj, if_pos (by omega)]
    · have h1 : n ∈ js ++ [j] ↔ n ∈ js := by simp [e]
      by_cases h2 : n ∈ js
      · rw [if_pos (h1.2 h2), if_pos h2]
        by_cases h3 : j < n
        · rw [if_pos h3, if_pos (by omega)]; omega
        · rw [if_neg h3, if_neg (by omega)]; omega
      · rw [if_neg (fun q => h2 (h1.1 q)), if_neg h2]
        by_cases h3 : j < n
        · rw [if_pos h3, if_pos (by omega)]; omega
        · rw [if_neg h3, if_neg (by omega)]
theorem sumIn_le (f : Nat → Nat) (js : List Nat) (n : Nat) : sumIn f js n ≤ sumIn f (List.range n) n ∧ ∀ m, n ≤ m → sumIn f (List.range m) n = sumIn f (List.range n) n := by
  have key : ∀ n m, n ≤ m → sumIn f (List.range m) n = sumIn f (List.range n) n := by
    intro n
    induction n with
    | zero => intro m _; rfl
    | succ n ih =>
      intro m hm
      unfold sumIn
      rw [ih m (by omega), ih (n + 1) (by omega), if_pos (List.mem_range.2 (by omega)), if_pos (List.mem_range.2 (by omega))]
  refine ⟨?_, key n⟩
  induction n with
  | zero => exact Nat.le_refl _
  | succ n ih =>
    unfold sumIn
    rw [key n (n + 1) (by omega), if_pos (List.mem_range.2 (by omega))]
    split <;> omega
theorem sumIn_lack (f : Nat → Nat) (js : List Nat) (n j : Nat) (hj : j < n) (hn : j ∉ js) (hf : 0 < f j) : sumIn f js n < sumIn f (List.range n) n := by
  induction n with
  | zero => omega
  | succ n ih =>
    unfold sumIn
    rw [(sumIn_le f js n).2 (n + 1) (by omega), if_pos (List.mem_range.2 (by omega))]
    by_cases e : n = j
    · subst e
      rw [if_neg hn]
      have := (sumIn_le f js n).1
      omega
    · have := ih (by omega)
      split <;> omega
theorem sumIn_all (f : Nat → Nat) (js : List Nat) (n : Nat) (h : ∀ j, j < n → j ∈ js) : sumIn f js n = sumIn f (List.range n) n := by
  induction n with
  | zero => rfl
  | succ n ih =>
    unfold sumIn
    rw [ih (fun j hj => h j (by omega)), (sumIn_le f js n).2 (n + 1) (by omega), if_pos (h n (by omega)), if_pos (List.mem_range.2 (by omega))]
/-- the sum over a list without doubles -/
theorem sum_of (f : Nat → Nat) (n : Nat) (js : List Nat) (hd : js.Nodup) (hl : ∀ j ∈ js, j < n) : (js.map f).sum = sumIn f js n := by
  suffices h : ∀ (m : Nat) (js : List Nat), js.length = m → js.Nodup → (∀ j ∈ js, j < n) → (js.map f).sum = sumIn f js n from h _ js rfl hd hl
  intro m
  induction m with
  | zero =>
    intro js h0 _ _
    rw [List.eq_nil_of_length_eq_zero h0, sumIn_none]; rfl
  | succ m ih =>
    intro js h0 hd hl
    obtain ⟨js', j, rfl⟩ : ∃ js' j, js = js' ++ [j] := by
      have : js ≠ [] := fun e => by subst e; simp at h0
      exact ⟨js.dropLast, js.getLast this, (List.dropLast_concat_getLast this).symm⟩
    rw [List.nodup_append] at hd
    have hj : j ∉ js' := fun q => hd.2.2 j q j (by simp) rfl
    rw [sumIn_snoc f js' j n hj, if_pos (hl j (by simp)), List.map_append, List.sum_append, ih js' (by simpa using h0) hd.1 (fun x hx => hl x (by simp [hx]))]
    simp
/-- as many as n, all below n, none twice: all -/
theorem all_of (n : Nat) (js : List Nat) (hd : js.Nodup) (hl : ∀ j ∈ js, j < n) (hn : js.length = n) : ∀ j, j < n → j ∈ js := by
  intro j hj
  refine Classical.byContradiction fun hc => ?_
  have h1 := sum_of (fun _ => 1) n js hd hl
  have h2 := sumIn_lack (fun _ => 1) js n j hj hc (by decide)
  have h3 : sumIn (fun _ => 1) (List.range n) n = n := by
    have key : ∀ n, sumIn (fun _ => 1) (List.range n) n = n := by
      intro n
      induction n with
      | zero => rfl
      | succ n ih =>
        unfold sumIn
        rw [(sumIn_le (fun _ => 1) [] n).2 (n + 1) (by omega), ih, if_pos (List.mem_range.2 (by omega))]
    exact key n
  have h4 : (js.map fun _ => 1).sum = js.length := by
    clear h1 h2 h3 hc hd hl hn
    induction js with
    | nil => rfl
    | cons a l ih => simp only [List.map_cons, List.sum_cons, ih, List.length_cons]; omega
  omega
theorem len_of (n : Nat) (js : List Nat) (hd : js.Nodup) (hl : ∀ j ∈ js, j < n) : js.length ≤ n := by
  have h1 := sum_of (fun _ => 1) n js hd hl
  have h2 := (sumIn_le (fun _ => 1) js n).1
  have h3 : sumIn (fun _ => 1) (List.range n) n = n := by
    have key : ∀ n, sumIn (fun _ => 1) (List.range n) n = n := by
      intro n
      induction n with
      | zero => rfl
      | succ n ih =>
        unfold sumIn
        rw [(sumIn_le (fun _ => 1) [] n).2 (n + 1) (by omega), ih, if_pos (List.mem_range.2 (by omega))]
    exact key n
  have h4 : (js.map fun _ => 1).sum = js.length := by
    clear h1 h2 h3 hd hl
    induction js with
    | nil => rfl
    | cons a l ih => simp only [List.map_cons, List.sum_cons, ih, List.length_cons]; omega
  omega
theorem lack_of (n : Nat) (js : List Nat) (hn : js.length < n) (hd : js.Nodup) (hl : ∀ j ∈ js, j < n) : ∃ j, j < n ∧ j ∉ js := by
  refine Classical.byContradiction fun hc => ?_
  have hall : ∀ j, j < n → j ∈ js := fun j hj => Classical.byContradiction fun q => hc ⟨j, hj, q⟩
  have h1 := sum_of (fun _ => 1) n js hd hl
  rw [sumIn_all _ _ _ hall] at h1
  have h3 : sumIn (fun _ => 1) (List.range n) n = n := by
    have key : ∀ n, sumIn (fun _ => 1) (List.range n) n = n := by
      intro n
      induction n with
      | zero => rfl
      | succ n ih =>
        unfold sumIn
        rw [(sumIn_le (fun _ => 1) [] n).2 (n + 1) (by omega), ih, if_pos (List.mem_range.2 (by omega))]
    exact key n
  have h4 : (js.map fun _ => 1).sum = js.length := by
    clear h1 h3 hc hall hd hl hn
    induction js with
    | nil => rfl
    | cons a l ih => simp only [List.map_cons, List.sum_cons, ih, List.length_cons]; omega
  omega
end Go.Proofs.Ytbjiicnagfeciaa
